/-
  No cell of these rows narrows 'for every input' (looked for: loops, veiled, ifaces, maps, wideKeys, modest, calm, conditions, laid).
  DERIVED. THE GIVEN ROWS OF THIS SEAT. 6 by the template 'for every input the law returns true; each argument reads behind the call as it read before'; 0 by the template 'total and deterministic' (their statements: YtceokdbcglbclaaGreatTotals.lean).
  GIVEN WITH THE SEED: the statements are not yours to turn. If you find one false, say at which input.
  Laid BY PROGRAM, IN A SANDBOX (cutbox-rows.mjs): the forced cells as the released guide's own fill.sh prints them over the translation b8a62a40e7b9333b… (all of the seat's roots in one cut). By AI agents, Wed Nov 11 2026. No macro, syntax, notation, axiom, sorry.
-/
import Derived.Test.YtceokdbcglbclaaGreatChecked
import GoSem.Claim
import GoSem.ClaimJoined
import GoSem.ClaimMapViews
import Derived.JoinedTies
import Derived.KernelRfl
namespace Go.Proofs.YtceokdbcglbclaaGreat
/- THE CELL 'sum', in the pinned program and in every row, IS THE sha256 OF THE DUMP (.gsa) THAT YtceokdbcglbclaaGreatProg.lean LOADS. Nothing in Lean hashes anything: it is a label: what it is worth is what the hold of that sum in a sandbox is worth. -/
noncomputable def Tryz.pinned : Pinned := { name := "ytceokdbcglbclaagreat", sum := "b8a62a40e7b9333bd77bdbda0049032bf8d051257c1537e4fbed88d9919d574c", checked := Tryz.checked }
namespace Rows
def none {H : Type} : Left H := { results := [], args := [] }

/-- 'ostlerlaw22.ShiftWrong': WHATEVER THE INPUT: true; the input reads as it did. -/
def shiftWrongSpec : ChangeSpec := { name := "shiftWrong", fn := fun _ => fun
  | [d] => { results := [.lit (.bool true)], args := [d] }
  | _ => none }
def shiftWrongRow : OpenClaim := { program := "ytceokdbcglbclaagreat", sum := "b8a62a40e7b9333bd77bdbda0049032bf8d051257c1537e4fbed88d9919d574c", func := "ostler/ostlerlaw22.ShiftWrong", spec := "shiftWrong", inPlace := ["internal/bytealg.IndexByteString", "internal/bytealg.IndexString"], unfollowed := true, recurses := true, named := ["internal/bytealg.MaxLen"], apart := false }
def ShiftWrongSaid : Prop := shiftWrongRow.holds Tryz.pinned (OpenSpec.ofChange shiftWrongSpec)

/-- ITS FALSE NEIGHBOUR: 'it returns false'. Refute it at one input. -/
def shiftWrongWrong : ChangeSpec := { name := "shiftWrong", fn := fun _ => fun
  | [d] => { results := [.lit (.bool false)], args := [d] }
  | _ => none }
def ShiftWrongWrongFalsely : Prop := shiftWrongRow.holds Tryz.pinned (OpenSpec.ofChange shiftWrongWrong)

/-- 'ostlerlaw22.ShiftTight': WHATEVER THE INPUT: true; the input reads as it did. -/
def shiftTightSpec : ChangeSpec := { name := "shiftTight", fn := fun _ => fun
  | [d] => { results := [.lit (.bool true)], args := [d] }
  | _ => none }
def shiftTightRow : OpenClaim := { program := "ytceokdbcglbclaagreat", sum := "b8a62a40e7b9333bd77bdbda0049032bf8d051257c1537e4fbed88d9919d574c", func := "ostler/ostlerlaw22.ShiftTight", spec := "shiftTight", inPlace := ["internal/bytealg.IndexByteString", "internal/bytealg.IndexString"], unfollowed := true, recurses := true, named := ["internal/bytealg.MaxLen"], apart := false }
def ShiftTightSaid : Prop := shiftTightRow.holds Tryz.pinned (OpenSpec.ofChange shiftTightSpec)

/-- ITS FALSE NEIGHBOUR: 'it returns false'. Refute it at one input. -/
def shiftTightWrong : ChangeSpec := { name := "shiftTight", fn := fun _ => fun
  | [d] => { results := [.lit (.bool false)], args := [d] }
  | _ => none }
def ShiftTightWrongFalsely : Prop := shiftTightRow.holds Tryz.pinned (OpenSpec.ofChange shiftTightWrong)

/-- 'ostlerlaw22.ShiftModels': WHATEVER THE INPUT: true; the input reads as it did. -/
def shiftModelsSpec : ChangeSpec := { name := "shiftModels", fn := fun _ => fun
  | [d1, d2] => { results := [.lit (.bool true)], args := [d1, d2] }
  | _ => none }
def shiftModelsRow : OpenClaim := { program := "ytceokdbcglbclaagreat", sum := "b8a62a40e7b9333bd77bdbda0049032bf8d051257c1537e4fbed88d9919d574c", func := "ostler/ostlerlaw22.ShiftModels", spec := "shiftModels", inPlace := ["internal/bytealg.IndexByteString", "internal/bytealg.IndexString"], unfollowed := true, recurses := true, named := ["internal/bytealg.MaxLen"], apart := false }
def ShiftModelsSaid : Prop := shiftModelsRow.holds Tryz.pinned (OpenSpec.ofChange shiftModelsSpec)

/-- ITS FALSE NEIGHBOUR: 'it returns false'. Refute it at one input. -/
def shiftModelsWrong : ChangeSpec := { name := "shiftModels", fn := fun _ => fun
  | [d1, d2] => { results := [.lit (.bool false)], args := [d1, d2] }
  | _ => none }
def ShiftModelsWrongFalsely : Prop := shiftModelsRow.holds Tryz.pinned (OpenSpec.ofChange shiftModelsWrong)

/-- 'ostlerlaw22.ShiftForm': WHATEVER THE INPUT: true; the input reads as it did. -/
def shiftFormSpec : ChangeSpec := { name := "shiftForm", fn := fun _ => fun
  | [d] => { results := [.lit (.bool true)], args := [d] }
  | _ => none }
def shiftFormRow : OpenClaim := { program := "ytceokdbcglbclaagreat", sum := "b8a62a40e7b9333bd77bdbda0049032bf8d051257c1537e4fbed88d9919d574c", func := "ostler/ostlerlaw22.ShiftForm", spec := "shiftForm", inPlace := ["internal/bytealg.IndexByteString", "internal/bytealg.IndexString"], unfollowed := true, recurses := true, named := ["internal/bytealg.MaxLen"], apart := false }
def ShiftFormSaid : Prop := shiftFormRow.holds Tryz.pinned (OpenSpec.ofChange shiftFormSpec)

/-- ITS FALSE NEIGHBOUR: 'it returns false'. Refute it at one input. -/
def shiftFormWrong : ChangeSpec := { name := "shiftForm", fn := fun _ => fun
  | [d] => { results := [.lit (.bool false)], args := [d] }
  | _ => none }
def ShiftFormWrongFalsely : Prop := shiftFormRow.holds Tryz.pinned (OpenSpec.ofChange shiftFormWrong)

/-- 'ostlerlaw22.ShiftSingle': WHATEVER THE INPUT: true; the input reads as it did. -/
def shiftSingleSpec : ChangeSpec := { name := "shiftSingle", fn := fun _ => fun
  | [d] => { results := [.lit (.bool true)], args := [d] }
  | _ => none }
def shiftSingleRow : OpenClaim := { program := "ytceokdbcglbclaagreat", sum := "b8a62a40e7b9333bd77bdbda0049032bf8d051257c1537e4fbed88d9919d574c", func := "ostler/ostlerlaw22.ShiftSingle", spec := "shiftSingle", inPlace := ["internal/bytealg.IndexByteString", "internal/bytealg.IndexString"], unfollowed := true, recurses := true, named := ["internal/bytealg.MaxLen"], apart := false }
def ShiftSingleSaid : Prop := shiftSingleRow.holds Tryz.pinned (OpenSpec.ofChange shiftSingleSpec)

/-- ITS FALSE NEIGHBOUR: 'it returns false'. Refute it at one input. -/
def shiftSingleWrong : ChangeSpec := { name := "shiftSingle", fn := fun _ => fun
  | [d] => { results := [.lit (.bool false)], args := [d] }
  | _ => none }
def ShiftSingleWrongFalsely : Prop := shiftSingleRow.holds Tryz.pinned (OpenSpec.ofChange shiftSingleWrong)

/-- 'ostlerlaw22.ShiftStable': WHATEVER THE INPUT: true; the input reads as it did. -/
def shiftStableSpec : ChangeSpec := { name := "shiftStable", fn := fun _ => fun
  | [d] => { results := [.lit (.bool true)], args := [d] }
  | _ => none }
def shiftStableRow : OpenClaim := { program := "ytceokdbcglbclaagreat", sum := "b8a62a40e7b9333bd77bdbda0049032bf8d051257c1537e4fbed88d9919d574c", func := "ostler/ostlerlaw22.ShiftStable", spec := "shiftStable", inPlace := ["internal/bytealg.IndexByteString", "internal/bytealg.IndexString"], unfollowed := true, recurses := true, named := ["internal/bytealg.MaxLen"], apart := false }
def ShiftStableSaid : Prop := shiftStableRow.holds Tryz.pinned (OpenSpec.ofChange shiftStableSpec)

/-- ITS FALSE NEIGHBOUR: 'it returns false'. Refute it at one input. -/
def shiftStableWrong : ChangeSpec := { name := "shiftStable", fn := fun _ => fun
  | [d] => { results := [.lit (.bool false)], args := [d] }
  | _ => none }
def ShiftStableWrongFalsely : Prop := shiftStableRow.holds Tryz.pinned (OpenSpec.ofChange shiftStableWrong)

/- THE SECOND FORM. 'bulk': how many values and letters a reading holds, each counted each time it is reached (what is shared counts as often as it is met; a slice's spare places count too). A statement '..UptoSaid' is the law's where the arguments, and the package variables that the reading takes, are together of bulk at most 1048576: NARROWER than '..Said'. Prove '..Said' where nothing that the law and all that it calls make is longer than what came in: it says more and counts as full. Else prove '..UptoSaid'. A law counts once. -/
mutual
def uptoBulk {H : Type} : DataW H → Nat
  | .lit (.string bytes) => bytes.length + 1
  | .lit _ => 1
  | .nil => 1
  | .ptr d => uptoBulk d + 1
  | .slice elems spare => uptoBulkAll elems + uptoBulkAll spare + 1
  | .agg parts => uptoBulkAll parts + 1
  | .iface _ d => uptoBulk d + 1
  | .map entries => uptoBulkEntries entries + 1
  | .held _ => 1
def uptoBulkAll {H : Type} : List (DataW H) → Nat
  | [] => 0
  | d :: r => uptoBulk d + uptoBulkAll r
def uptoBulkEntries {H : Type} : List (Lit × DataW H) → Nat
  | [] => 0
  | x :: r => uptoBulkEntry x + uptoBulkEntries r
def uptoBulkEntry {H : Type} : Lit × DataW H → Nat
  | (.string bytes, d) => bytes.length + uptoBulk d + 1
  | (_, d) => uptoBulk d + 1
 end
def uptoSmall : (H : Type) → List (DataW H) → Bool := fun _ ds => decide (uptoBulkAll ds ≤ 1048576)
def OpenSpec.upto (s : _root_.Go.ChangeSpec) : _root_.Go.OpenSpec := { _root_.Go.OpenSpec.ofChange s with cond := some uptoSmall }

/-- 'ostlerlaw22.ShiftWrong', WHERE WHAT IT READS IS OF BULK AT MOST 1048576: true; the input reads as it did. -/
def shiftWrongUptoRow : OpenClaim := { program := "ytceokdbcglbclaagreat", sum := "b8a62a40e7b9333bd77bdbda0049032bf8d051257c1537e4fbed88d9919d574c", func := "ostler/ostlerlaw22.ShiftWrong", spec := "shiftWrong", inPlace := ["internal/bytealg.IndexByteString", "internal/bytealg.IndexString"], unfollowed := true, recurses := true, named := ["internal/bytealg.MaxLen"], apart := false, narrowed := true }
def ShiftWrongUptoSaid : Prop := shiftWrongUptoRow.holds Tryz.pinned (OpenSpec.upto shiftWrongSpec)

/-- 'ostlerlaw22.ShiftTight', WHERE WHAT IT READS IS OF BULK AT MOST 1048576: true; the input reads as it did. -/
def shiftTightUptoRow : OpenClaim := { program := "ytceokdbcglbclaagreat", sum := "b8a62a40e7b9333bd77bdbda0049032bf8d051257c1537e4fbed88d9919d574c", func := "ostler/ostlerlaw22.ShiftTight", spec := "shiftTight", inPlace := ["internal/bytealg.IndexByteString", "internal/bytealg.IndexString"], unfollowed := true, recurses := true, named := ["internal/bytealg.MaxLen"], apart := false, narrowed := true }
def ShiftTightUptoSaid : Prop := shiftTightUptoRow.holds Tryz.pinned (OpenSpec.upto shiftTightSpec)

/-- 'ostlerlaw22.ShiftModels', WHERE WHAT IT READS IS OF BULK AT MOST 1048576: true; the input reads as it did. -/
def shiftModelsUptoRow : OpenClaim := { program := "ytceokdbcglbclaagreat", sum := "b8a62a40e7b9333bd77bdbda0049032bf8d051257c1537e4fbed88d9919d574c", func := "ostler/ostlerlaw22.ShiftModels", spec := "shiftModels", inPlace := ["internal/bytealg.IndexByteString", "internal/bytealg.IndexString"], unfollowed := true, recurses := true, named := ["internal/bytealg.MaxLen"], apart := false, narrowed := true }
def ShiftModelsUptoSaid : Prop := shiftModelsUptoRow.holds Tryz.pinned (OpenSpec.upto shiftModelsSpec)

/-- 'ostlerlaw22.ShiftForm', WHERE WHAT IT READS IS OF BULK AT MOST 1048576: true; the input reads as it did. -/
def shiftFormUptoRow : OpenClaim := { program := "ytceokdbcglbclaagreat", sum := "b8a62a40e7b9333bd77bdbda0049032bf8d051257c1537e4fbed88d9919d574c", func := "ostler/ostlerlaw22.ShiftForm", spec := "shiftForm", inPlace := ["internal/bytealg.IndexByteString", "internal/bytealg.IndexString"], unfollowed := true, recurses := true, named := ["internal/bytealg.MaxLen"], apart := false, narrowed := true }
def ShiftFormUptoSaid : Prop := shiftFormUptoRow.holds Tryz.pinned (OpenSpec.upto shiftFormSpec)

/-- 'ostlerlaw22.ShiftSingle', WHERE WHAT IT READS IS OF BULK AT MOST 1048576: true; the input reads as it did. -/
def shiftSingleUptoRow : OpenClaim := { program := "ytceokdbcglbclaagreat", sum := "b8a62a40e7b9333bd77bdbda0049032bf8d051257c1537e4fbed88d9919d574c", func := "ostler/ostlerlaw22.ShiftSingle", spec := "shiftSingle", inPlace := ["internal/bytealg.IndexByteString", "internal/bytealg.IndexString"], unfollowed := true, recurses := true, named := ["internal/bytealg.MaxLen"], apart := false, narrowed := true }
def ShiftSingleUptoSaid : Prop := shiftSingleUptoRow.holds Tryz.pinned (OpenSpec.upto shiftSingleSpec)

/-- 'ostlerlaw22.ShiftStable', WHERE WHAT IT READS IS OF BULK AT MOST 1048576: true; the input reads as it did. -/
def shiftStableUptoRow : OpenClaim := { program := "ytceokdbcglbclaagreat", sum := "b8a62a40e7b9333bd77bdbda0049032bf8d051257c1537e4fbed88d9919d574c", func := "ostler/ostlerlaw22.ShiftStable", spec := "shiftStable", inPlace := ["internal/bytealg.IndexByteString", "internal/bytealg.IndexString"], unfollowed := true, recurses := true, named := ["internal/bytealg.MaxLen"], apart := false, narrowed := true }
def ShiftStableUptoSaid : Prop := shiftStableUptoRow.holds Tryz.pinned (OpenSpec.upto shiftStableSpec)

end Rows
end Go.Proofs.YtceokdbcglbclaaGreat

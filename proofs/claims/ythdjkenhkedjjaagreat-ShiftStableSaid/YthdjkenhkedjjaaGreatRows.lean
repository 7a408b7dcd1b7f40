/-
  No cell of these rows narrows 'for every input' (looked for: loops, veiled, ifaces, maps, wideKeys, modest, calm, conditions, laid).
  DERIVED. THE GIVEN ROWS OF THIS SEAT. 9 by the template 'for every input the law returns true; each argument reads behind the call as it read before'; 0 by the template 'total and deterministic' (their statements: YthdjkenhkedjjaaGreatTotals.lean).
  GIVEN WITH THE SEED: the statements are not yours to turn. If you find one false, say at which input.
  Laid BY PROGRAM, IN A SANDBOX (cutbox-rows.mjs): the forced cells as the released guide's own fill.sh prints them over the translation de4659d5ed5ac8a7… (all of the seat's roots in one cut). By AI agents, Wed Nov 11 2026. No macro, syntax, notation, axiom, sorry.
-/
import Derived.Test.YthdjkenhkedjjaaGreatChecked
import GoSem.Claim
import GoSem.ClaimJoined
import GoSem.ClaimMapViews
import Derived.JoinedTies
import Derived.KernelRfl
namespace Go.Proofs.YthdjkenhkedjjaaGreat
/- THE CELL 'sum', in the pinned program and in every row, IS THE sha256 OF THE DUMP (.gsa) THAT YthdjkenhkedjjaaGreatProg.lean LOADS. Nothing in Lean hashes anything: it is a label: what it is worth is what the hold of that sum in a sandbox is worth. -/
noncomputable def Tryz.pinned : Pinned := { name := "ythdjkenhkedjjaagreat", sum := "de4659d5ed5ac8a71a11e07a22d73796dbd69334ca1d07d0227694fae17ee868", checked := Tryz.checked }
namespace Rows
def none {H : Type} : Left H := { results := [], args := [] }

/-- 'ostlerlaw23.CounterModels': WHATEVER THE INPUT: true; the input reads as it did. -/
def counterModelsSpec : ChangeSpec := { name := "counterModels", fn := fun _ => fun
  | [d1, d2] => { results := [.lit (.bool true)], args := [d1, d2] }
  | _ => none }
def counterModelsRow : OpenClaim := { program := "ythdjkenhkedjjaagreat", sum := "de4659d5ed5ac8a71a11e07a22d73796dbd69334ca1d07d0227694fae17ee868", func := "ostler/ostlerlaw23.CounterModels", spec := "counterModels", inPlace := ["internal/bytealg.IndexByteString", "internal/bytealg.IndexString"], unfollowed := true, recurses := true, named := ["internal/bytealg.MaxLen"], plainKeys := false, apart := false }
def CounterModelsSaid : Prop := counterModelsRow.holds Tryz.pinned (OpenSpec.ofChange counterModelsSpec)

/-- ITS FALSE NEIGHBOUR: 'it returns false'. Refute it at one input. -/
def counterModelsWrong : ChangeSpec := { name := "counterModels", fn := fun _ => fun
  | [d1, d2] => { results := [.lit (.bool false)], args := [d1, d2] }
  | _ => none }
def CounterModelsWrongFalsely : Prop := counterModelsRow.holds Tryz.pinned (OpenSpec.ofChange counterModelsWrong)

/-- 'ostlerlaw23.CounterForm': WHATEVER THE INPUT: true; the input reads as it did. -/
def counterFormSpec : ChangeSpec := { name := "counterForm", fn := fun _ => fun
  | [d] => { results := [.lit (.bool true)], args := [d] }
  | _ => none }
def counterFormRow : OpenClaim := { program := "ythdjkenhkedjjaagreat", sum := "de4659d5ed5ac8a71a11e07a22d73796dbd69334ca1d07d0227694fae17ee868", func := "ostler/ostlerlaw23.CounterForm", spec := "counterForm", inPlace := ["internal/bytealg.IndexByteString", "internal/bytealg.IndexString"], unfollowed := true, recurses := true, named := ["internal/bytealg.MaxLen"], plainKeys := false, apart := false }
def CounterFormSaid : Prop := counterFormRow.holds Tryz.pinned (OpenSpec.ofChange counterFormSpec)

/-- ITS FALSE NEIGHBOUR: 'it returns false'. Refute it at one input. -/
def counterFormWrong : ChangeSpec := { name := "counterForm", fn := fun _ => fun
  | [d] => { results := [.lit (.bool false)], args := [d] }
  | _ => none }
def CounterFormWrongFalsely : Prop := counterFormRow.holds Tryz.pinned (OpenSpec.ofChange counterFormWrong)

/-- 'ostlerlaw22.ShiftTight': WHATEVER THE INPUT: true; the input reads as it did. -/
def shiftTightSpec : ChangeSpec := { name := "shiftTight", fn := fun _ => fun
  | [d] => { results := [.lit (.bool true)], args := [d] }
  | _ => none }
def shiftTightRow : OpenClaim := { program := "ythdjkenhkedjjaagreat", sum := "de4659d5ed5ac8a71a11e07a22d73796dbd69334ca1d07d0227694fae17ee868", func := "ostler/ostlerlaw22.ShiftTight", spec := "shiftTight", inPlace := ["internal/bytealg.IndexByteString", "internal/bytealg.IndexString"], unfollowed := true, recurses := true, named := ["internal/bytealg.MaxLen"], plainKeys := false, apart := false }
def ShiftTightSaid : Prop := shiftTightRow.holds Tryz.pinned (OpenSpec.ofChange shiftTightSpec)

/-- ITS FALSE NEIGHBOUR: 'it returns false'. Refute it at one input. -/
def shiftTightWrong : ChangeSpec := { name := "shiftTight", fn := fun _ => fun
  | [d] => { results := [.lit (.bool false)], args := [d] }
  | _ => none }
def ShiftTightWrongFalsely : Prop := shiftTightRow.holds Tryz.pinned (OpenSpec.ofChange shiftTightWrong)

/-- 'ostlerlaw22.ShiftForm': WHATEVER THE INPUT: true; the input reads as it did. -/
def shiftFormSpec : ChangeSpec := { name := "shiftForm", fn := fun _ => fun
  | [d] => { results := [.lit (.bool true)], args := [d] }
  | _ => none }
def shiftFormRow : OpenClaim := { program := "ythdjkenhkedjjaagreat", sum := "de4659d5ed5ac8a71a11e07a22d73796dbd69334ca1d07d0227694fae17ee868", func := "ostler/ostlerlaw22.ShiftForm", spec := "shiftForm", inPlace := ["internal/bytealg.IndexByteString", "internal/bytealg.IndexString"], unfollowed := true, recurses := true, named := ["internal/bytealg.MaxLen"], plainKeys := false, apart := false }
def ShiftFormSaid : Prop := shiftFormRow.holds Tryz.pinned (OpenSpec.ofChange shiftFormSpec)

/-- ITS FALSE NEIGHBOUR: 'it returns false'. Refute it at one input. -/
def shiftFormWrong : ChangeSpec := { name := "shiftForm", fn := fun _ => fun
  | [d] => { results := [.lit (.bool false)], args := [d] }
  | _ => none }
def ShiftFormWrongFalsely : Prop := shiftFormRow.holds Tryz.pinned (OpenSpec.ofChange shiftFormWrong)

/-- 'ostlerlaw23.CounterCounts': WHATEVER THE INPUT: true; the input reads as it did. -/
def counterCountsSpec : ChangeSpec := { name := "counterCounts", fn := fun _ => fun
  | [d1, d2] => { results := [.lit (.bool true)], args := [d1, d2] }
  | _ => none }
def counterCountsRow : OpenClaim := { program := "ythdjkenhkedjjaagreat", sum := "de4659d5ed5ac8a71a11e07a22d73796dbd69334ca1d07d0227694fae17ee868", func := "ostler/ostlerlaw23.CounterCounts", spec := "counterCounts", inPlace := ["internal/bytealg.IndexByteString", "internal/bytealg.IndexString"], unfollowed := true, recurses := true, named := ["internal/bytealg.MaxLen"], plainKeys := false, apart := false }
def CounterCountsSaid : Prop := counterCountsRow.holds Tryz.pinned (OpenSpec.ofChange counterCountsSpec)

/-- ITS FALSE NEIGHBOUR: 'it returns false'. Refute it at one input. -/
def counterCountsWrong : ChangeSpec := { name := "counterCounts", fn := fun _ => fun
  | [d1, d2] => { results := [.lit (.bool false)], args := [d1, d2] }
  | _ => none }
def CounterCountsWrongFalsely : Prop := counterCountsRow.holds Tryz.pinned (OpenSpec.ofChange counterCountsWrong)

/-- 'ostlerlaw23.CounterStable': WHATEVER THE INPUT: true; the input reads as it did. -/
def counterStableSpec : ChangeSpec := { name := "counterStable", fn := fun _ => fun
  | [d] => { results := [.lit (.bool true)], args := [d] }
  | _ => none }
def counterStableRow : OpenClaim := { program := "ythdjkenhkedjjaagreat", sum := "de4659d5ed5ac8a71a11e07a22d73796dbd69334ca1d07d0227694fae17ee868", func := "ostler/ostlerlaw23.CounterStable", spec := "counterStable", inPlace := ["internal/bytealg.IndexByteString", "internal/bytealg.IndexString"], unfollowed := true, recurses := true, named := ["internal/bytealg.MaxLen"], plainKeys := false, apart := false }
def CounterStableSaid : Prop := counterStableRow.holds Tryz.pinned (OpenSpec.ofChange counterStableSpec)

/-- ITS FALSE NEIGHBOUR: 'it returns false'. Refute it at one input. -/
def counterStableWrong : ChangeSpec := { name := "counterStable", fn := fun _ => fun
  | [d] => { results := [.lit (.bool false)], args := [d] }
  | _ => none }
def CounterStableWrongFalsely : Prop := counterStableRow.holds Tryz.pinned (OpenSpec.ofChange counterStableWrong)

/-- 'ostlerlaw23.CounterDepends': WHATEVER THE INPUT: true; the input reads as it did. -/
def counterDependsSpec : ChangeSpec := { name := "counterDepends", fn := fun _ => fun
  | [d] => { results := [.lit (.bool true)], args := [d] }
  | _ => none }
def counterDependsRow : OpenClaim := { program := "ythdjkenhkedjjaagreat", sum := "de4659d5ed5ac8a71a11e07a22d73796dbd69334ca1d07d0227694fae17ee868", func := "ostler/ostlerlaw23.CounterDepends", spec := "counterDepends", inPlace := ["internal/bytealg.IndexByteString", "internal/bytealg.IndexString", "slices.overlaps[int]"], unfollowed := true, recurses := true, named := ["internal/bytealg.MaxLen"], plainKeys := false, apart := false }
def CounterDependsSaid : Prop := counterDependsRow.holds Tryz.pinned (OpenSpec.ofChange counterDependsSpec)

/-- ITS FALSE NEIGHBOUR: 'it returns false'. Refute it at one input. -/
def counterDependsWrong : ChangeSpec := { name := "counterDepends", fn := fun _ => fun
  | [d] => { results := [.lit (.bool false)], args := [d] }
  | _ => none }
def CounterDependsWrongFalsely : Prop := counterDependsRow.holds Tryz.pinned (OpenSpec.ofChange counterDependsWrong)

/-- 'ostlerlaw22.ShiftStable': WHATEVER THE INPUT: true; the input reads as it did. -/
def shiftStableSpec : ChangeSpec := { name := "shiftStable", fn := fun _ => fun
  | [d] => { results := [.lit (.bool true)], args := [d] }
  | _ => none }
def shiftStableRow : OpenClaim := { program := "ythdjkenhkedjjaagreat", sum := "de4659d5ed5ac8a71a11e07a22d73796dbd69334ca1d07d0227694fae17ee868", func := "ostler/ostlerlaw22.ShiftStable", spec := "shiftStable", inPlace := ["internal/bytealg.IndexByteString", "internal/bytealg.IndexString"], unfollowed := true, recurses := true, named := ["internal/bytealg.MaxLen"], plainKeys := false, apart := false }
def ShiftStableSaid : Prop := shiftStableRow.holds Tryz.pinned (OpenSpec.ofChange shiftStableSpec)

/-- ITS FALSE NEIGHBOUR: 'it returns false'. Refute it at one input. -/
def shiftStableWrong : ChangeSpec := { name := "shiftStable", fn := fun _ => fun
  | [d] => { results := [.lit (.bool false)], args := [d] }
  | _ => none }
def ShiftStableWrongFalsely : Prop := shiftStableRow.holds Tryz.pinned (OpenSpec.ofChange shiftStableWrong)

/-- 'ostlerlaw23.CounterShift': WHATEVER THE INPUT: true; the input reads as it did. -/
def counterShiftSpec : ChangeSpec := { name := "counterShift", fn := fun _ => fun
  | [d] => { results := [.lit (.bool true)], args := [d] }
  | _ => none }
def counterShiftRow : OpenClaim := { program := "ythdjkenhkedjjaagreat", sum := "de4659d5ed5ac8a71a11e07a22d73796dbd69334ca1d07d0227694fae17ee868", func := "ostler/ostlerlaw23.CounterShift", spec := "counterShift", inPlace := ["internal/bytealg.IndexByteString", "internal/bytealg.IndexString"], unfollowed := true, recurses := true, named := ["internal/bytealg.MaxLen"], plainKeys := false, apart := false }
def CounterShiftSaid : Prop := counterShiftRow.holds Tryz.pinned (OpenSpec.ofChange counterShiftSpec)

/-- ITS FALSE NEIGHBOUR: 'it returns false'. Refute it at one input. -/
def counterShiftWrong : ChangeSpec := { name := "counterShift", fn := fun _ => fun
  | [d] => { results := [.lit (.bool false)], args := [d] }
  | _ => none }
def CounterShiftWrongFalsely : Prop := counterShiftRow.holds Tryz.pinned (OpenSpec.ofChange counterShiftWrong)

/- THE SECOND FORM. 'bulk': how many values and letters a reading holds, each counted each time it is reached (what is shared counts as often as it is met; a slice's spare places count too). A statement '..UptoSaid' is the law's where the arguments, and the package variables that the reading takes, are together of bulk at most 1048576: NARROWER than '..Said'. Prove '..Said' where nothing that the law and all that it calls make is longer than what came in: it says more and counts as full. Else prove '..UptoSaid'. A law counts once. -/
mutual
def uptoBulk {H : Type} : DataW H → Nat
  | .lit (.string bytes) => bytes.length + 1
  | .lit _ => 1
  | .nil => 1
  | .ptr d => uptoBulk d + 1
  | .slice elems spare => uptoBulkAll elems + uptoBulkAll spare + 1
  | .agg parts => uptoBulkAll parts + 1
  | .iface _ d => uptoBulk d + 1
  | .map entries => uptoBulkEntries entries + 1
  | .held _ => 1
def uptoBulkAll {H : Type} : List (DataW H) → Nat
  | [] => 0
  | d :: r => uptoBulk d + uptoBulkAll r
def uptoBulkEntries {H : Type} : List (Lit × DataW H) → Nat
  | [] => 0
  | x :: r => uptoBulkEntry x + uptoBulkEntries r
def uptoBulkEntry {H : Type} : Lit × DataW H → Nat
  | (.string bytes, d) => bytes.length + uptoBulk d + 1
  | (_, d) => uptoBulk d + 1
 end
def uptoSmall : (H : Type) → List (DataW H) → Bool := fun _ ds => decide (uptoBulkAll ds ≤ 1048576)
def OpenSpec.upto (s : _root_.Go.ChangeSpec) : _root_.Go.OpenSpec := { _root_.Go.OpenSpec.ofChange s with cond := some uptoSmall }

/-- 'ostlerlaw23.CounterModels', WHERE WHAT IT READS IS OF BULK AT MOST 1048576: true; the input reads as it did. -/
def counterModelsUptoRow : OpenClaim := { program := "ythdjkenhkedjjaagreat", sum := "de4659d5ed5ac8a71a11e07a22d73796dbd69334ca1d07d0227694fae17ee868", func := "ostler/ostlerlaw23.CounterModels", spec := "counterModels", inPlace := ["internal/bytealg.IndexByteString", "internal/bytealg.IndexString"], unfollowed := true, recurses := true, named := ["internal/bytealg.MaxLen"], plainKeys := false, apart := false, narrowed := true }
def CounterModelsUptoSaid : Prop := counterModelsUptoRow.holds Tryz.pinned (OpenSpec.upto counterModelsSpec)

/-- 'ostlerlaw23.CounterForm', WHERE WHAT IT READS IS OF BULK AT MOST 1048576: true; the input reads as it did. -/
def counterFormUptoRow : OpenClaim := { program := "ythdjkenhkedjjaagreat", sum := "de4659d5ed5ac8a71a11e07a22d73796dbd69334ca1d07d0227694fae17ee868", func := "ostler/ostlerlaw23.CounterForm", spec := "counterForm", inPlace := ["internal/bytealg.IndexByteString", "internal/bytealg.IndexString"], unfollowed := true, recurses := true, named := ["internal/bytealg.MaxLen"], plainKeys := false, apart := false, narrowed := true }
def CounterFormUptoSaid : Prop := counterFormUptoRow.holds Tryz.pinned (OpenSpec.upto counterFormSpec)

/-- 'ostlerlaw22.ShiftTight', WHERE WHAT IT READS IS OF BULK AT MOST 1048576: true; the input reads as it did. -/
def shiftTightUptoRow : OpenClaim := { program := "ythdjkenhkedjjaagreat", sum := "de4659d5ed5ac8a71a11e07a22d73796dbd69334ca1d07d0227694fae17ee868", func := "ostler/ostlerlaw22.ShiftTight", spec := "shiftTight", inPlace := ["internal/bytealg.IndexByteString", "internal/bytealg.IndexString"], unfollowed := true, recurses := true, named := ["internal/bytealg.MaxLen"], plainKeys := false, apart := false, narrowed := true }
def ShiftTightUptoSaid : Prop := shiftTightUptoRow.holds Tryz.pinned (OpenSpec.upto shiftTightSpec)

/-- 'ostlerlaw22.ShiftForm', WHERE WHAT IT READS IS OF BULK AT MOST 1048576: true; the input reads as it did. -/
def shiftFormUptoRow : OpenClaim := { program := "ythdjkenhkedjjaagreat", sum := "de4659d5ed5ac8a71a11e07a22d73796dbd69334ca1d07d0227694fae17ee868", func := "ostler/ostlerlaw22.ShiftForm", spec := "shiftForm", inPlace := ["internal/bytealg.IndexByteString", "internal/bytealg.IndexString"], unfollowed := true, recurses := true, named := ["internal/bytealg.MaxLen"], plainKeys := false, apart := false, narrowed := true }
def ShiftFormUptoSaid : Prop := shiftFormUptoRow.holds Tryz.pinned (OpenSpec.upto shiftFormSpec)

/-- 'ostlerlaw23.CounterCounts', WHERE WHAT IT READS IS OF BULK AT MOST 1048576: true; the input reads as it did. -/
def counterCountsUptoRow : OpenClaim := { program := "ythdjkenhkedjjaagreat", sum := "de4659d5ed5ac8a71a11e07a22d73796dbd69334ca1d07d0227694fae17ee868", func := "ostler/ostlerlaw23.CounterCounts", spec := "counterCounts", inPlace := ["internal/bytealg.IndexByteString", "internal/bytealg.IndexString"], unfollowed := true, recurses := true, named := ["internal/bytealg.MaxLen"], plainKeys := false, apart := false, narrowed := true }
def CounterCountsUptoSaid : Prop := counterCountsUptoRow.holds Tryz.pinned (OpenSpec.upto counterCountsSpec)

/-- 'ostlerlaw23.CounterStable', WHERE WHAT IT READS IS OF BULK AT MOST 1048576: true; the input reads as it did. -/
def counterStableUptoRow : OpenClaim := { program := "ythdjkenhkedjjaagreat", sum := "de4659d5ed5ac8a71a11e07a22d73796dbd69334ca1d07d0227694fae17ee868", func := "ostler/ostlerlaw23.CounterStable", spec := "counterStable", inPlace := ["internal/bytealg.IndexByteString", "internal/bytealg.IndexString"], unfollowed := true, recurses := true, named := ["internal/bytealg.MaxLen"], plainKeys := false, apart := false, narrowed := true }
def CounterStableUptoSaid : Prop := counterStableUptoRow.holds Tryz.pinned (OpenSpec.upto counterStableSpec)

/-- 'ostlerlaw23.CounterDepends', WHERE WHAT IT READS IS OF BULK AT MOST 1048576: true; the input reads as it did. -/
def counterDependsUptoRow : OpenClaim := { program := "ythdjkenhkedjjaagreat", sum := "de4659d5ed5ac8a71a11e07a22d73796dbd69334ca1d07d0227694fae17ee868", func := "ostler/ostlerlaw23.CounterDepends", spec := "counterDepends", inPlace := ["internal/bytealg.IndexByteString", "internal/bytealg.IndexString", "slices.overlaps[int]"], unfollowed := true, recurses := true, named := ["internal/bytealg.MaxLen"], plainKeys := false, apart := false, narrowed := true }
def CounterDependsUptoSaid : Prop := counterDependsUptoRow.holds Tryz.pinned (OpenSpec.upto counterDependsSpec)

/-- 'ostlerlaw22.ShiftStable', WHERE WHAT IT READS IS OF BULK AT MOST 1048576: true; the input reads as it did. -/
def shiftStableUptoRow : OpenClaim := { program := "ythdjkenhkedjjaagreat", sum := "de4659d5ed5ac8a71a11e07a22d73796dbd69334ca1d07d0227694fae17ee868", func := "ostler/ostlerlaw22.ShiftStable", spec := "shiftStable", inPlace := ["internal/bytealg.IndexByteString", "internal/bytealg.IndexString"], unfollowed := true, recurses := true, named := ["internal/bytealg.MaxLen"], plainKeys := false, apart := false, narrowed := true }
def ShiftStableUptoSaid : Prop := shiftStableUptoRow.holds Tryz.pinned (OpenSpec.upto shiftStableSpec)

/-- 'ostlerlaw23.CounterShift', WHERE WHAT IT READS IS OF BULK AT MOST 1048576: true; the input reads as it did. -/
def counterShiftUptoRow : OpenClaim := { program := "ythdjkenhkedjjaagreat", sum := "de4659d5ed5ac8a71a11e07a22d73796dbd69334ca1d07d0227694fae17ee868", func := "ostler/ostlerlaw23.CounterShift", spec := "counterShift", inPlace := ["internal/bytealg.IndexByteString", "internal/bytealg.IndexString"], unfollowed := true, recurses := true, named := ["internal/bytealg.MaxLen"], plainKeys := false, apart := false, narrowed := true }
def CounterShiftUptoSaid : Prop := counterShiftUptoRow.holds Tryz.pinned (OpenSpec.upto counterShiftSpec)

end Rows
end Go.Proofs.YthdjkenhkedjjaaGreat

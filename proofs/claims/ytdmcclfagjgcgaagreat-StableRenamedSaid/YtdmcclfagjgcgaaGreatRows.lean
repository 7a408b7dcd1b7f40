/-
  No cell of these rows narrows 'for every input' (looked for: loops, veiled, ifaces, maps, wideKeys, modest, calm, conditions, laid).
  DERIVED. THE GIVEN ROWS OF THIS SEAT. 6 by the template 'for every input the law returns true; each argument reads behind the call as it read before'; 0 by the template 'total and deterministic' (their statements: YtdmcclfagjgcgaaGreatTotals.lean).
  GIVEN WITH THE SEED: the statements are not yours to turn. If you find one false, say at which input.
  Laid BY PROGRAM, IN A SANDBOX (cutbox-rows.mjs): the forced cells as the released guide's own fill.sh prints them over the translation cacf55706e6abad5… (all of the seat's roots in one cut). By AI agents, Wed Nov 11 2026. No macro, syntax, notation, axiom, sorry.
-/
import Derived.Test.YtdmcclfagjgcgaaGreatChecked
import GoSem.Claim
import GoSem.ClaimJoined
import GoSem.ClaimMapViews
import Derived.JoinedTies
import Derived.KernelRfl
namespace Go.Proofs.YtdmcclfagjgcgaaGreat
/- THE CELL 'sum', in the pinned program and in every row, IS THE sha256 OF THE DUMP (.gsa) THAT YtdmcclfagjgcgaaGreatProg.lean LOADS. Nothing in Lean hashes anything: it is a label: what it is worth is what the hold of that sum in a sandbox is worth. -/
noncomputable def Tryz.pinned : Pinned := { name := "ytdmcclfagjgcgaagreat", sum := "cacf55706e6abad551124de1cd5044413e5f51c1b458c3cee459f5457583e243", checked := Tryz.checked }
namespace Rows
def none {H : Type} : Left H := { results := [], args := [] }

/-- 'ostlerlaw19.ReductOrder': WHATEVER THE INPUT: true; the input reads as it did. -/
def reductOrderSpec : ChangeSpec := { name := "reductOrder", fn := fun _ => fun
  | [d1, d2, d3] => { results := [.lit (.bool true)], args := [d1, d2, d3] }
  | _ => none }
def reductOrderRow : OpenClaim := { program := "ytdmcclfagjgcgaagreat", sum := "cacf55706e6abad551124de1cd5044413e5f51c1b458c3cee459f5457583e243", func := "ostler/ostlerlaw19.ReductOrder", spec := "reductOrder", inPlace := ["internal/bytealg.IndexByteString", "internal/bytealg.IndexString"], unfollowed := true, recurses := true, named := ["internal/bytealg.MaxLen"], apart := false }
def ReductOrderSaid : Prop := reductOrderRow.holds Tryz.pinned (OpenSpec.ofChange reductOrderSpec)

/-- ITS FALSE NEIGHBOUR: 'it returns false'. Refute it at one input. -/
def reductOrderWrong : ChangeSpec := { name := "reductOrder", fn := fun _ => fun
  | [d1, d2, d3] => { results := [.lit (.bool false)], args := [d1, d2, d3] }
  | _ => none }
def ReductOrderWrongFalsely : Prop := reductOrderRow.holds Tryz.pinned (OpenSpec.ofChange reductOrderWrong)

/-- 'ostlerlaw22.ShiftWrong': WHATEVER THE INPUT: true; the input reads as it did. -/
def shiftWrongSpec : ChangeSpec := { name := "shiftWrong", fn := fun _ => fun
  | [d] => { results := [.lit (.bool true)], args := [d] }
  | _ => none }
def shiftWrongRow : OpenClaim := { program := "ytdmcclfagjgcgaagreat", sum := "cacf55706e6abad551124de1cd5044413e5f51c1b458c3cee459f5457583e243", func := "ostler/ostlerlaw22.ShiftWrong", spec := "shiftWrong", inPlace := ["internal/bytealg.IndexByteString", "internal/bytealg.IndexString"], unfollowed := true, recurses := true, named := ["internal/bytealg.MaxLen"], apart := false }
def ShiftWrongSaid : Prop := shiftWrongRow.holds Tryz.pinned (OpenSpec.ofChange shiftWrongSpec)

/-- ITS FALSE NEIGHBOUR: 'it returns false'. Refute it at one input. -/
def shiftWrongWrong : ChangeSpec := { name := "shiftWrong", fn := fun _ => fun
  | [d] => { results := [.lit (.bool false)], args := [d] }
  | _ => none }
def ShiftWrongWrongFalsely : Prop := shiftWrongRow.holds Tryz.pinned (OpenSpec.ofChange shiftWrongWrong)

/-- 'ostlerlaw20.StableSplit': WHATEVER THE INPUT: true; the input reads as it did. -/
def stableSplitSpec : ChangeSpec := { name := "stableSplit", fn := fun _ => fun
  | [d1, d2] => { results := [.lit (.bool true)], args := [d1, d2] }
  | _ => none }
def stableSplitRow : OpenClaim := { program := "ytdmcclfagjgcgaagreat", sum := "cacf55706e6abad551124de1cd5044413e5f51c1b458c3cee459f5457583e243", func := "ostler/ostlerlaw20.StableSplit", spec := "stableSplit", inPlace := ["internal/bytealg.IndexByteString", "internal/bytealg.IndexString"], unfollowed := true, recurses := true, named := ["internal/bytealg.MaxLen"], apart := false }
def StableSplitSaid : Prop := stableSplitRow.holds Tryz.pinned (OpenSpec.ofChange stableSplitSpec)

/-- ITS FALSE NEIGHBOUR: 'it returns false'. Refute it at one input. -/
def stableSplitWrong : ChangeSpec := { name := "stableSplit", fn := fun _ => fun
  | [d1, d2] => { results := [.lit (.bool false)], args := [d1, d2] }
  | _ => none }
def StableSplitWrongFalsely : Prop := stableSplitRow.holds Tryz.pinned (OpenSpec.ofChange stableSplitWrong)

/-- 'ostlerlaw20.StableWrong': WHATEVER THE INPUT: true; the input reads as it did. -/
def stableWrongSpec : ChangeSpec := { name := "stableWrong", fn := fun _ => fun
  | [d1, d2] => { results := [.lit (.bool true)], args := [d1, d2] }
  | _ => none }
def stableWrongRow : OpenClaim := { program := "ytdmcclfagjgcgaagreat", sum := "cacf55706e6abad551124de1cd5044413e5f51c1b458c3cee459f5457583e243", func := "ostler/ostlerlaw20.StableWrong", spec := "stableWrong", inPlace := ["internal/bytealg.IndexByteString", "internal/bytealg.IndexString"], unfollowed := true, recurses := true, named := ["internal/bytealg.MaxLen"], apart := false }
def StableWrongSaid : Prop := stableWrongRow.holds Tryz.pinned (OpenSpec.ofChange stableWrongSpec)

/-- ITS FALSE NEIGHBOUR: 'it returns false'. Refute it at one input. -/
def stableWrongWrong : ChangeSpec := { name := "stableWrong", fn := fun _ => fun
  | [d1, d2] => { results := [.lit (.bool false)], args := [d1, d2] }
  | _ => none }
def StableWrongWrongFalsely : Prop := stableWrongRow.holds Tryz.pinned (OpenSpec.ofChange stableWrongWrong)

/-- 'ostlerlaw21.GraphRenamed': WHATEVER THE INPUT: true; the input reads as it did. -/
def graphRenamedSpec : ChangeSpec := { name := "graphRenamed", fn := fun _ => fun
  | [d1, d2] => { results := [.lit (.bool true)], args := [d1, d2] }
  | _ => none }
def graphRenamedRow : OpenClaim := { program := "ytdmcclfagjgcgaagreat", sum := "cacf55706e6abad551124de1cd5044413e5f51c1b458c3cee459f5457583e243", func := "ostler/ostlerlaw21.GraphRenamed", spec := "graphRenamed", inPlace := ["internal/bytealg.IndexByteString", "internal/bytealg.IndexString", "slices.overlaps[int]"], unfollowed := true, recurses := true, named := ["internal/bytealg.MaxLen"], apart := false }
def GraphRenamedSaid : Prop := graphRenamedRow.holds Tryz.pinned (OpenSpec.ofChange graphRenamedSpec)

/-- ITS FALSE NEIGHBOUR: 'it returns false'. Refute it at one input. -/
def graphRenamedWrong : ChangeSpec := { name := "graphRenamed", fn := fun _ => fun
  | [d1, d2] => { results := [.lit (.bool false)], args := [d1, d2] }
  | _ => none }
def GraphRenamedWrongFalsely : Prop := graphRenamedRow.holds Tryz.pinned (OpenSpec.ofChange graphRenamedWrong)

/-- 'ostlerlaw20.StableRenamed': WHATEVER THE INPUT: true; the input reads as it did. -/
def stableRenamedSpec : ChangeSpec := { name := "stableRenamed", fn := fun _ => fun
  | [d1, d2] => { results := [.lit (.bool true)], args := [d1, d2] }
  | _ => none }
def stableRenamedRow : OpenClaim := { program := "ytdmcclfagjgcgaagreat", sum := "cacf55706e6abad551124de1cd5044413e5f51c1b458c3cee459f5457583e243", func := "ostler/ostlerlaw20.StableRenamed", spec := "stableRenamed", inPlace := ["internal/bytealg.IndexByteString", "internal/bytealg.IndexString"], unfollowed := true, recurses := true, named := ["internal/bytealg.MaxLen"], apart := false }
def StableRenamedSaid : Prop := stableRenamedRow.holds Tryz.pinned (OpenSpec.ofChange stableRenamedSpec)

/-- ITS FALSE NEIGHBOUR: 'it returns false'. Refute it at one input. -/
def stableRenamedWrong : ChangeSpec := { name := "stableRenamed", fn := fun _ => fun
  | [d1, d2] => { results := [.lit (.bool false)], args := [d1, d2] }
  | _ => none }
def StableRenamedWrongFalsely : Prop := stableRenamedRow.holds Tryz.pinned (OpenSpec.ofChange stableRenamedWrong)

/- THE SECOND FORM. 'bulk': how many values and letters a reading holds, each counted each time it is reached (what is shared counts as often as it is met; a slice's spare places count too). A statement '..UptoSaid' is the law's where the arguments, and the package variables that the reading takes, are together of bulk at most 1048576: NARROWER than '..Said'. Prove '..Said' where nothing that the law and all that it calls make is longer than what came in: it says more and counts as full. Else prove '..UptoSaid'. A law counts once. -/
mutual
def uptoBulk {H : Type} : DataW H → Nat
  | .lit (.string bytes) => bytes.length + 1
  | .lit _ => 1
  | .nil => 1
  | .ptr d => uptoBulk d + 1
  | .slice elems spare => uptoBulkAll elems + uptoBulkAll spare + 1
  | .agg parts => uptoBulkAll parts + 1
  | .iface _ d => uptoBulk d + 1
  | .map entries => uptoBulkEntries entries + 1
  | .held _ => 1
def uptoBulkAll {H : Type} : List (DataW H) → Nat
  | [] => 0
  | d :: r => uptoBulk d + uptoBulkAll r
def uptoBulkEntries {H : Type} : List (Lit × DataW H) → Nat
  | [] => 0
  | x :: r => uptoBulkEntry x + uptoBulkEntries r
def uptoBulkEntry {H : Type} : Lit × DataW H → Nat
  | (.string bytes, d) => bytes.length + uptoBulk d + 1
  | (_, d) => uptoBulk d + 1
 end
def uptoSmall : (H : Type) → List (DataW H) → Bool := fun _ ds => decide (uptoBulkAll ds ≤ 1048576)
def OpenSpec.upto (s : _root_.Go.ChangeSpec) : _root_.Go.OpenSpec := { _root_.Go.OpenSpec.ofChange s with cond := some uptoSmall }

/-- 'ostlerlaw19.ReductOrder', WHERE WHAT IT READS IS OF BULK AT MOST 1048576: true; the input reads as it did. -/
def reductOrderUptoRow : OpenClaim := { program := "ytdmcclfagjgcgaagreat", sum := "cacf55706e6abad551124de1cd5044413e5f51c1b458c3cee459f5457583e243", func := "ostler/ostlerlaw19.ReductOrder", spec := "reductOrder", inPlace := ["internal/bytealg.IndexByteString", "internal/bytealg.IndexString"], unfollowed := true, recurses := true, named := ["internal/bytealg.MaxLen"], apart := false, narrowed := true }
def ReductOrderUptoSaid : Prop := reductOrderUptoRow.holds Tryz.pinned (OpenSpec.upto reductOrderSpec)

/-- 'ostlerlaw22.ShiftWrong', WHERE WHAT IT READS IS OF BULK AT MOST 1048576: true; the input reads as it did. -/
def shiftWrongUptoRow : OpenClaim := { program := "ytdmcclfagjgcgaagreat", sum := "cacf55706e6abad551124de1cd5044413e5f51c1b458c3cee459f5457583e243", func := "ostler/ostlerlaw22.ShiftWrong", spec := "shiftWrong", inPlace := ["internal/bytealg.IndexByteString", "internal/bytealg.IndexString"], unfollowed := true, recurses := true, named := ["internal/bytealg.MaxLen"], apart := false, narrowed := true }
def ShiftWrongUptoSaid : Prop := shiftWrongUptoRow.holds Tryz.pinned (OpenSpec.upto shiftWrongSpec)

/-- 'ostlerlaw20.StableSplit', WHERE WHAT IT READS IS OF BULK AT MOST 1048576: true; the input reads as it did. -/
def stableSplitUptoRow : OpenClaim := { program := "ytdmcclfagjgcgaagreat", sum := "cacf55706e6abad551124de1cd5044413e5f51c1b458c3cee459f5457583e243", func := "ostler/ostlerlaw20.StableSplit", spec := "stableSplit", inPlace := ["internal/bytealg.IndexByteString", "internal/bytealg.IndexString"], unfollowed := true, recurses := true, named := ["internal/bytealg.MaxLen"], apart := false, narrowed := true }
def StableSplitUptoSaid : Prop := stableSplitUptoRow.holds Tryz.pinned (OpenSpec.upto stableSplitSpec)

/-- 'ostlerlaw20.StableWrong', WHERE WHAT IT READS IS OF BULK AT MOST 1048576: true; the input reads as it did. -/
def stableWrongUptoRow : OpenClaim := { program := "ytdmcclfagjgcgaagreat", sum := "cacf55706e6abad551124de1cd5044413e5f51c1b458c3cee459f5457583e243", func := "ostler/ostlerlaw20.StableWrong", spec := "stableWrong", inPlace := ["internal/bytealg.IndexByteString", "internal/bytealg.IndexString"], unfollowed := true, recurses := true, named := ["internal/bytealg.MaxLen"], apart := false, narrowed := true }
def StableWrongUptoSaid : Prop := stableWrongUptoRow.holds Tryz.pinned (OpenSpec.upto stableWrongSpec)

/-- 'ostlerlaw21.GraphRenamed', WHERE WHAT IT READS IS OF BULK AT MOST 1048576: true; the input reads as it did. -/
def graphRenamedUptoRow : OpenClaim := { program := "ytdmcclfagjgcgaagreat", sum := "cacf55706e6abad551124de1cd5044413e5f51c1b458c3cee459f5457583e243", func := "ostler/ostlerlaw21.GraphRenamed", spec := "graphRenamed", inPlace := ["internal/bytealg.IndexByteString", "internal/bytealg.IndexString", "slices.overlaps[int]"], unfollowed := true, recurses := true, named := ["internal/bytealg.MaxLen"], apart := false, narrowed := true }
def GraphRenamedUptoSaid : Prop := graphRenamedUptoRow.holds Tryz.pinned (OpenSpec.upto graphRenamedSpec)

/-- 'ostlerlaw20.StableRenamed', WHERE WHAT IT READS IS OF BULK AT MOST 1048576: true; the input reads as it did. -/
def stableRenamedUptoRow : OpenClaim := { program := "ytdmcclfagjgcgaagreat", sum := "cacf55706e6abad551124de1cd5044413e5f51c1b458c3cee459f5457583e243", func := "ostler/ostlerlaw20.StableRenamed", spec := "stableRenamed", inPlace := ["internal/bytealg.IndexByteString", "internal/bytealg.IndexString"], unfollowed := true, recurses := true, named := ["internal/bytealg.MaxLen"], apart := false, narrowed := true }
def StableRenamedUptoSaid : Prop := stableRenamedUptoRow.holds Tryz.pinned (OpenSpec.upto stableRenamedSpec)

end Rows
end Go.Proofs.YtdmcclfagjgcgaaGreat

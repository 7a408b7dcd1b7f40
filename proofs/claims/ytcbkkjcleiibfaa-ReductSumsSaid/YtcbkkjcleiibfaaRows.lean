/-
  No cell of these rows narrows 'for every input' (looked for: loops, veiled, ifaces, maps, wideKeys, modest, calm, conditions, laid).
  DERIVED. THE GIVEN ROWS OF THIS SEAT. 6 by the template 'for every input the law returns true; each argument reads behind the call as it read before'; 0 by the template 'total and deterministic' (their statements: YtcbkkjcleiibfaaTotals.lean).
  GIVEN WITH THE SEED: the statements are not yours to turn. If you find one false, say at which input.
  Laid BY PROGRAM, IN A SANDBOX (cutbox-rows.mjs): the forced cells as the released guide's own fill.sh prints them over the translation 2f8423dbc3401b41… (all of the seat's roots in one cut). By AI agents, Wed Nov 11 2026. No macro, syntax, notation, axiom, sorry.
-/
import Derived.Test.YtcbkkjcleiibfaaChecked
import GoSem.Claim
import GoSem.ClaimJoined
import GoSem.ClaimMapViews
import Derived.JoinedTies
import Derived.KernelRfl
namespace Go.Proofs.Ytcbkkjcleiibfaa
/- THE CELL 'sum', in the pinned program and in every row, IS THE sha256 OF THE DUMP (.gsa) THAT YtcbkkjcleiibfaaProg.lean LOADS. Nothing in Lean hashes anything: it is a label: what it is worth is what the hold of that sum in a sandbox is worth. -/
noncomputable def Try.pinned : Pinned := { name := "ytcbkkjcleiibfaa", sum := "2f8423dbc3401b413ea2343e58dd6a53bc714eaf35f38e8e117c3bb50bf740dc", checked := Try.checked }
namespace Rows
def none {H : Type} : Left H := { results := [], args := [] }

/-- 'ostlerlaw19.ReductLeast': WHATEVER THE INPUT: true; the input reads as it did. -/
def reductLeastSpec : ChangeSpec := { name := "reductLeast", fn := fun _ => fun
  | [d1, d2] => { results := [.lit (.bool true)], args := [d1, d2] }
  | _ => none }
def reductLeastRow : OpenClaim := { program := "ytcbkkjcleiibfaa", sum := "2f8423dbc3401b413ea2343e58dd6a53bc714eaf35f38e8e117c3bb50bf740dc", func := "ostler/ostlerlaw19.ReductLeast", spec := "reductLeast", inPlace := ["internal/bytealg.IndexByteString", "internal/bytealg.IndexString"], unfollowed := true, recurses := true, named := ["internal/bytealg.MaxLen"], apart := false }
def ReductLeastSaid : Prop := reductLeastRow.holds Try.pinned (OpenSpec.ofChange reductLeastSpec)

/-- ITS FALSE NEIGHBOUR: 'it returns false'. Refute it at one input. -/
def reductLeastWrong : ChangeSpec := { name := "reductLeast", fn := fun _ => fun
  | [d1, d2] => { results := [.lit (.bool false)], args := [d1, d2] }
  | _ => none }
def ReductLeastWrongFalsely : Prop := reductLeastRow.holds Try.pinned (OpenSpec.ofChange reductLeastWrong)

/-- 'ostlerlaw19.ReductModel': WHATEVER THE INPUT: true; the input reads as it did. -/
def reductModelSpec : ChangeSpec := { name := "reductModel", fn := fun _ => fun
  | [d1, d2, d3] => { results := [.lit (.bool true)], args := [d1, d2, d3] }
  | _ => none }
def reductModelRow : OpenClaim := { program := "ytcbkkjcleiibfaa", sum := "2f8423dbc3401b413ea2343e58dd6a53bc714eaf35f38e8e117c3bb50bf740dc", func := "ostler/ostlerlaw19.ReductModel", spec := "reductModel", inPlace := ["internal/bytealg.IndexByteString", "internal/bytealg.IndexString"], unfollowed := true, recurses := true, named := ["internal/bytealg.MaxLen"], apart := false }
def ReductModelSaid : Prop := reductModelRow.holds Try.pinned (OpenSpec.ofChange reductModelSpec)

/-- ITS FALSE NEIGHBOUR: 'it returns false'. Refute it at one input. -/
def reductModelWrong : ChangeSpec := { name := "reductModel", fn := fun _ => fun
  | [d1, d2, d3] => { results := [.lit (.bool false)], args := [d1, d2, d3] }
  | _ => none }
def ReductModelWrongFalsely : Prop := reductModelRow.holds Try.pinned (OpenSpec.ofChange reductModelWrong)

/-- 'ostlerlaw19.ReductWrong': WHATEVER THE INPUT: true; the input reads as it did. -/
def reductWrongSpec : ChangeSpec := { name := "reductWrong", fn := fun _ => fun
  | [d1, d2, d3] => { results := [.lit (.bool true)], args := [d1, d2, d3] }
  | _ => none }
def reductWrongRow : OpenClaim := { program := "ytcbkkjcleiibfaa", sum := "2f8423dbc3401b413ea2343e58dd6a53bc714eaf35f38e8e117c3bb50bf740dc", func := "ostler/ostlerlaw19.ReductWrong", spec := "reductWrong", inPlace := ["internal/bytealg.IndexByteString", "internal/bytealg.IndexString"], unfollowed := true, recurses := true, named := ["internal/bytealg.MaxLen"], apart := false }
def ReductWrongSaid : Prop := reductWrongRow.holds Try.pinned (OpenSpec.ofChange reductWrongSpec)

/-- ITS FALSE NEIGHBOUR: 'it returns false'. Refute it at one input. -/
def reductWrongWrong : ChangeSpec := { name := "reductWrong", fn := fun _ => fun
  | [d1, d2, d3] => { results := [.lit (.bool false)], args := [d1, d2, d3] }
  | _ => none }
def ReductWrongWrongFalsely : Prop := reductWrongRow.holds Try.pinned (OpenSpec.ofChange reductWrongWrong)

/-- 'ostlerlaw19.ReductClosed': WHATEVER THE INPUT: true; the input reads as it did. -/
def reductClosedSpec : ChangeSpec := { name := "reductClosed", fn := fun _ => fun
  | [d1, d2] => { results := [.lit (.bool true)], args := [d1, d2] }
  | _ => none }
def reductClosedRow : OpenClaim := { program := "ytcbkkjcleiibfaa", sum := "2f8423dbc3401b413ea2343e58dd6a53bc714eaf35f38e8e117c3bb50bf740dc", func := "ostler/ostlerlaw19.ReductClosed", spec := "reductClosed", inPlace := ["internal/bytealg.IndexByteString", "internal/bytealg.IndexString"], unfollowed := true, recurses := true, named := ["internal/bytealg.MaxLen"], apart := false }
def ReductClosedSaid : Prop := reductClosedRow.holds Try.pinned (OpenSpec.ofChange reductClosedSpec)

/-- ITS FALSE NEIGHBOUR: 'it returns false'. Refute it at one input. -/
def reductClosedWrong : ChangeSpec := { name := "reductClosed", fn := fun _ => fun
  | [d1, d2] => { results := [.lit (.bool false)], args := [d1, d2] }
  | _ => none }
def ReductClosedWrongFalsely : Prop := reductClosedRow.holds Try.pinned (OpenSpec.ofChange reductClosedWrong)

/-- 'ostlerlaw19.ReductGrows': WHATEVER THE INPUT: true; the input reads as it did. -/
def reductGrowsSpec : ChangeSpec := { name := "reductGrows", fn := fun _ => fun
  | [d1, d2, d3, d4] => { results := [.lit (.bool true)], args := [d1, d2, d3, d4] }
  | _ => none }
def reductGrowsRow : OpenClaim := { program := "ytcbkkjcleiibfaa", sum := "2f8423dbc3401b413ea2343e58dd6a53bc714eaf35f38e8e117c3bb50bf740dc", func := "ostler/ostlerlaw19.ReductGrows", spec := "reductGrows", inPlace := ["internal/bytealg.IndexByteString", "internal/bytealg.IndexString"], unfollowed := true, recurses := true, named := ["internal/bytealg.MaxLen"], apart := false }
def ReductGrowsSaid : Prop := reductGrowsRow.holds Try.pinned (OpenSpec.ofChange reductGrowsSpec)

/-- ITS FALSE NEIGHBOUR: 'it returns false'. Refute it at one input. -/
def reductGrowsWrong : ChangeSpec := { name := "reductGrows", fn := fun _ => fun
  | [d1, d2, d3, d4] => { results := [.lit (.bool false)], args := [d1, d2, d3, d4] }
  | _ => none }
def ReductGrowsWrongFalsely : Prop := reductGrowsRow.holds Try.pinned (OpenSpec.ofChange reductGrowsWrong)

/-- 'ostlerlaw19.ReductSums': WHATEVER THE INPUT: true; the input reads as it did. -/
def reductSumsSpec : ChangeSpec := { name := "reductSums", fn := fun _ => fun
  | [d1, d2, d3] => { results := [.lit (.bool true)], args := [d1, d2, d3] }
  | _ => none }
def reductSumsRow : OpenClaim := { program := "ytcbkkjcleiibfaa", sum := "2f8423dbc3401b413ea2343e58dd6a53bc714eaf35f38e8e117c3bb50bf740dc", func := "ostler/ostlerlaw19.ReductSums", spec := "reductSums", inPlace := ["internal/bytealg.IndexByteString", "internal/bytealg.IndexString"], unfollowed := true, recurses := true, named := ["internal/bytealg.MaxLen"], apart := false }
def ReductSumsSaid : Prop := reductSumsRow.holds Try.pinned (OpenSpec.ofChange reductSumsSpec)

/-- ITS FALSE NEIGHBOUR: 'it returns false'. Refute it at one input. -/
def reductSumsWrong : ChangeSpec := { name := "reductSums", fn := fun _ => fun
  | [d1, d2, d3] => { results := [.lit (.bool false)], args := [d1, d2, d3] }
  | _ => none }
def ReductSumsWrongFalsely : Prop := reductSumsRow.holds Try.pinned (OpenSpec.ofChange reductSumsWrong)

/- THE SECOND FORM. 'bulk': how many values and letters a reading holds, each counted each time it is reached (what is shared counts as often as it is met; a slice's spare places count too). A statement '..UptoSaid' is the law's where the arguments, and the package variables that the reading takes, are together of bulk at most 1048576: NARROWER than '..Said'. Prove '..Said' where nothing that the law and all that it calls make is longer than what came in: it says more and counts as full. Else prove '..UptoSaid'. A law counts once. -/
mutual
def uptoBulk {H : Type} : DataW H → Nat
  | .lit (.string bytes) => bytes.length + 1
  | .lit _ => 1
  | .nil => 1
  | .ptr d => uptoBulk d + 1
  | .slice elems spare => uptoBulkAll elems + uptoBulkAll spare + 1
  | .agg parts => uptoBulkAll parts + 1
  | .iface _ d => uptoBulk d + 1
  | .map entries => uptoBulkEntries entries + 1
  | .held _ => 1
def uptoBulkAll {H : Type} : List (DataW H) → Nat
  | [] => 0
  | d :: r => uptoBulk d + uptoBulkAll r
def uptoBulkEntries {H : Type} : List (Lit × DataW H) → Nat
  | [] => 0
  | x :: r => uptoBulkEntry x + uptoBulkEntries r
def uptoBulkEntry {H : Type} : Lit × DataW H → Nat
  | (.string bytes, d) => bytes.length + uptoBulk d + 1
  | (_, d) => uptoBulk d + 1
 end
def uptoSmall : (H : Type) → List (DataW H) → Bool := fun _ ds => decide (uptoBulkAll ds ≤ 1048576)
def OpenSpec.upto (s : _root_.Go.ChangeSpec) : _root_.Go.OpenSpec := { _root_.Go.OpenSpec.ofChange s with cond := some uptoSmall }

/-- 'ostlerlaw19.ReductLeast', WHERE WHAT IT READS IS OF BULK AT MOST 1048576: true; the input reads as it did. -/
def reductLeastUptoRow : OpenClaim := { program := "ytcbkkjcleiibfaa", sum := "2f8423dbc3401b413ea2343e58dd6a53bc714eaf35f38e8e117c3bb50bf740dc", func := "ostler/ostlerlaw19.ReductLeast", spec := "reductLeast", inPlace := ["internal/bytealg.IndexByteString", "internal/bytealg.IndexString"], unfollowed := true, recurses := true, named := ["internal/bytealg.MaxLen"], apart := false, narrowed := true }
def ReductLeastUptoSaid : Prop := reductLeastUptoRow.holds Try.pinned (OpenSpec.upto reductLeastSpec)

/-- 'ostlerlaw19.ReductModel', WHERE WHAT IT READS IS OF BULK AT MOST 1048576: true; the input reads as it did. -/
def reductModelUptoRow : OpenClaim := { program := "ytcbkkjcleiibfaa", sum := "2f8423dbc3401b413ea2343e58dd6a53bc714eaf35f38e8e117c3bb50bf740dc", func := "ostler/ostlerlaw19.ReductModel", spec := "reductModel", inPlace := ["internal/bytealg.IndexByteString", "internal/bytealg.IndexString"], unfollowed := true, recurses := true, named := ["internal/bytealg.MaxLen"], apart := false, narrowed := true }
def ReductModelUptoSaid : Prop := reductModelUptoRow.holds Try.pinned (OpenSpec.upto reductModelSpec)

/-- 'ostlerlaw19.ReductWrong', WHERE WHAT IT READS IS OF BULK AT MOST 1048576: true; the input reads as it did. -/
def reductWrongUptoRow : OpenClaim := { program := "ytcbkkjcleiibfaa", sum := "2f8423dbc3401b413ea2343e58dd6a53bc714eaf35f38e8e117c3bb50bf740dc", func := "ostler/ostlerlaw19.ReductWrong", spec := "reductWrong", inPlace := ["internal/bytealg.IndexByteString", "internal/bytealg.IndexString"], unfollowed := true, recurses := true, named := ["internal/bytealg.MaxLen"], apart := false, narrowed := true }
def ReductWrongUptoSaid : Prop := reductWrongUptoRow.holds Try.pinned (OpenSpec.upto reductWrongSpec)

/-- 'ostlerlaw19.ReductClosed', WHERE WHAT IT READS IS OF BULK AT MOST 1048576: true; the input reads as it did. -/
def reductClosedUptoRow : OpenClaim := { program := "ytcbkkjcleiibfaa", sum := "2f8423dbc3401b413ea2343e58dd6a53bc714eaf35f38e8e117c3bb50bf740dc", func := "ostler/ostlerlaw19.ReductClosed", spec := "reductClosed", inPlace := ["internal/bytealg.IndexByteString", "internal/bytealg.IndexString"], unfollowed := true, recurses := true, named := ["internal/bytealg.MaxLen"], apart := false, narrowed := true }
def ReductClosedUptoSaid : Prop := reductClosedUptoRow.holds Try.pinned (OpenSpec.upto reductClosedSpec)

/-- 'ostlerlaw19.ReductGrows', WHERE WHAT IT READS IS OF BULK AT MOST 1048576: true; the input reads as it did. -/
def reductGrowsUptoRow : OpenClaim := { program := "ytcbkkjcleiibfaa", sum := "2f8423dbc3401b413ea2343e58dd6a53bc714eaf35f38e8e117c3bb50bf740dc", func := "ostler/ostlerlaw19.ReductGrows", spec := "reductGrows", inPlace := ["internal/bytealg.IndexByteString", "internal/bytealg.IndexString"], unfollowed := true, recurses := true, named := ["internal/bytealg.MaxLen"], apart := false, narrowed := true }
def ReductGrowsUptoSaid : Prop := reductGrowsUptoRow.holds Try.pinned (OpenSpec.upto reductGrowsSpec)

/-- 'ostlerlaw19.ReductSums', WHERE WHAT IT READS IS OF BULK AT MOST 1048576: true; the input reads as it did. -/
def reductSumsUptoRow : OpenClaim := { program := "ytcbkkjcleiibfaa", sum := "2f8423dbc3401b413ea2343e58dd6a53bc714eaf35f38e8e117c3bb50bf740dc", func := "ostler/ostlerlaw19.ReductSums", spec := "reductSums", inPlace := ["internal/bytealg.IndexByteString", "internal/bytealg.IndexString"], unfollowed := true, recurses := true, named := ["internal/bytealg.MaxLen"], apart := false, narrowed := true }
def ReductSumsUptoSaid : Prop := reductSumsUptoRow.holds Try.pinned (OpenSpec.upto reductSumsSpec)

end Rows
end Go.Proofs.Ytcbkkjcleiibfaa

/-
  No cell of these rows narrows 'for every input' (looked for: loops, veiled, ifaces, maps, wideKeys, modest, calm, conditions, laid).
  DERIVED. THE GIVEN ROWS OF THIS SEAT. 4 by the template 'for every input the law returns true; each argument reads behind the call as it read before'; 0 by the template 'total and deterministic' (their statements: YtfopcpmckplemaaTotals.lean).
  GIVEN WITH THE SEED: the statements are not yours to turn. If you find one false, say at which input.
  Laid BY PROGRAM, IN A SANDBOX (cutbox-rows.mjs): the forced cells as the released guide's own fill.sh prints them over the translation a2135667b95030af… (all of the seat's roots in one cut). By AI agents, Wed Nov 11 2026. No macro, syntax, notation, axiom, sorry.
-/
import Derived.Test.YtfopcpmckplemaaChecked
import GoSem.Claim
import GoSem.ClaimJoined
import GoSem.ClaimMapViews
import Derived.JoinedTies
import Derived.KernelRfl
namespace Go.Proofs.Ytfopcpmckplemaa
/- THE CELL 'sum', in the pinned program and in every row, IS THE sha256 OF THE DUMP (.gsa) THAT YtfopcpmckplemaaProg.lean LOADS. Nothing in Lean hashes anything: it is a label: what it is worth is what the hold of that sum in a sandbox is worth. -/
noncomputable def Try.pinned : Pinned := { name := "ytfopcpmckplemaa", sum := "a2135667b95030af1b09c253a50af51f9c4a78f92cb366dec655a0a73f40bca0", checked := Try.checked }
namespace Rows
def none {H : Type} : Left H := { results := [], args := [] }

/-- 'ostlerlaw20.StableAntichain': WHATEVER THE INPUT: true; the input reads as it did. -/
def stableAntichainSpec : ChangeSpec := { name := "stableAntichain", fn := fun _ => fun
  | [d] => { results := [.lit (.bool true)], args := [d] }
  | _ => none }
def stableAntichainRow : OpenClaim := { program := "ytfopcpmckplemaa", sum := "a2135667b95030af1b09c253a50af51f9c4a78f92cb366dec655a0a73f40bca0", func := "ostler/ostlerlaw20.StableAntichain", spec := "stableAntichain", inPlace := ["internal/bytealg.IndexByteString", "internal/bytealg.IndexString"], unfollowed := true, recurses := true, named := ["internal/bytealg.MaxLen"], apart := false }
def StableAntichainSaid : Prop := stableAntichainRow.holds Try.pinned (OpenSpec.ofChange stableAntichainSpec)

/-- ITS FALSE NEIGHBOUR: 'it returns false'. Refute it at one input. -/
def stableAntichainWrong : ChangeSpec := { name := "stableAntichain", fn := fun _ => fun
  | [d] => { results := [.lit (.bool false)], args := [d] }
  | _ => none }
def StableAntichainWrongFalsely : Prop := stableAntichainRow.holds Try.pinned (OpenSpec.ofChange stableAntichainWrong)

/-- 'ostlerlaw20.StableConstraint': WHATEVER THE INPUT: true; the input reads as it did. -/
def stableConstraintSpec : ChangeSpec := { name := "stableConstraint", fn := fun _ => fun
  | [d1, d2] => { results := [.lit (.bool true)], args := [d1, d2] }
  | _ => none }
def stableConstraintRow : OpenClaim := { program := "ytfopcpmckplemaa", sum := "a2135667b95030af1b09c253a50af51f9c4a78f92cb366dec655a0a73f40bca0", func := "ostler/ostlerlaw20.StableConstraint", spec := "stableConstraint", inPlace := ["internal/bytealg.IndexByteString", "internal/bytealg.IndexString"], unfollowed := true, recurses := true, named := ["internal/bytealg.MaxLen"], apart := false }
def StableConstraintSaid : Prop := stableConstraintRow.holds Try.pinned (OpenSpec.ofChange stableConstraintSpec)

/-- ITS FALSE NEIGHBOUR: 'it returns false'. Refute it at one input. -/
def stableConstraintWrong : ChangeSpec := { name := "stableConstraint", fn := fun _ => fun
  | [d1, d2] => { results := [.lit (.bool false)], args := [d1, d2] }
  | _ => none }
def StableConstraintWrongFalsely : Prop := stableConstraintRow.holds Try.pinned (OpenSpec.ofChange stableConstraintWrong)

/-- 'ostlerlaw20.StableChoice': WHATEVER THE INPUT: true; the input reads as it did. -/
def stableChoiceSpec : ChangeSpec := { name := "stableChoice", fn := fun _ => fun
  | [d1, d2] => { results := [.lit (.bool true)], args := [d1, d2] }
  | _ => none }
def stableChoiceRow : OpenClaim := { program := "ytfopcpmckplemaa", sum := "a2135667b95030af1b09c253a50af51f9c4a78f92cb366dec655a0a73f40bca0", func := "ostler/ostlerlaw20.StableChoice", spec := "stableChoice", inPlace := ["internal/bytealg.IndexByteString", "internal/bytealg.IndexString"], unfollowed := true, recurses := true, named := ["internal/bytealg.MaxLen"], apart := false }
def StableChoiceSaid : Prop := stableChoiceRow.holds Try.pinned (OpenSpec.ofChange stableChoiceSpec)

/-- ITS FALSE NEIGHBOUR: 'it returns false'. Refute it at one input. -/
def stableChoiceWrong : ChangeSpec := { name := "stableChoice", fn := fun _ => fun
  | [d1, d2] => { results := [.lit (.bool false)], args := [d1, d2] }
  | _ => none }
def StableChoiceWrongFalsely : Prop := stableChoiceRow.holds Try.pinned (OpenSpec.ofChange stableChoiceWrong)

/-- 'ostlerlaw20.StableBest': WHATEVER THE INPUT: true; the input reads as it did. -/
def stableBestSpec : ChangeSpec := { name := "stableBest", fn := fun _ => fun
  | [d1, d2, d3, d4] => { results := [.lit (.bool true)], args := [d1, d2, d3, d4] }
  | _ => none }
def stableBestRow : OpenClaim := { program := "ytfopcpmckplemaa", sum := "a2135667b95030af1b09c253a50af51f9c4a78f92cb366dec655a0a73f40bca0", func := "ostler/ostlerlaw20.StableBest", spec := "stableBest", inPlace := ["internal/bytealg.IndexByteString", "internal/bytealg.IndexString"], unfollowed := true, recurses := true, named := ["internal/bytealg.MaxLen"], apart := false }
def StableBestSaid : Prop := stableBestRow.holds Try.pinned (OpenSpec.ofChange stableBestSpec)

/-- ITS FALSE NEIGHBOUR: 'it returns false'. Refute it at one input. -/
def stableBestWrong : ChangeSpec := { name := "stableBest", fn := fun _ => fun
  | [d1, d2, d3, d4] => { results := [.lit (.bool false)], args := [d1, d2, d3, d4] }
  | _ => none }
def StableBestWrongFalsely : Prop := stableBestRow.holds Try.pinned (OpenSpec.ofChange stableBestWrong)

/- THE SECOND FORM. 'bulk': how many values and letters a reading holds, each counted each time it is reached (what is shared counts as often as it is met; a slice's spare places count too). A statement '..UptoSaid' is the law's where the arguments, and the package variables that the reading takes, are together of bulk at most 1048576: NARROWER than '..Said'. Prove '..Said' where nothing that the law and all that it calls make is longer than what came in: it says more and counts as full. Else prove '..UptoSaid'. A law counts once. -/
mutual
def uptoBulk {H : Type} : DataW H → Nat
  | .lit (.string bytes) => bytes.length + 1
  | .lit _ => 1
  | .nil => 1
  | .ptr d => uptoBulk d + 1
  | .slice elems spare => uptoBulkAll elems + uptoBulkAll spare + 1
  | .agg parts => uptoBulkAll parts + 1
  | .iface _ d => uptoBulk d + 1
  | .map entries => uptoBulkEntries entries + 1
  | .held _ => 1
def uptoBulkAll {H : Type} : List (DataW H) → Nat
  | [] => 0
  | d :: r => uptoBulk d + uptoBulkAll r
def uptoBulkEntries {H : Type} : List (Lit × DataW H) → Nat
  | [] => 0
  | x :: r => uptoBulkEntry x + uptoBulkEntries r
def uptoBulkEntry {H : Type} : Lit × DataW H → Nat
  | (.string bytes, d) => bytes.length + uptoBulk d + 1
  | (_, d) => uptoBulk d + 1
 end
def uptoSmall : (H : Type) → List (DataW H) → Bool := fun _ ds => decide (uptoBulkAll ds ≤ 1048576)
def OpenSpec.upto (s : _root_.Go.ChangeSpec) : _root_.Go.OpenSpec := { _root_.Go.OpenSpec.ofChange s with cond := some uptoSmall }

/-- 'ostlerlaw20.StableAntichain', WHERE WHAT IT READS IS OF BULK AT MOST 1048576: true; the input reads as it did. -/
def stableAntichainUptoRow : OpenClaim := { program := "ytfopcpmckplemaa", sum := "a2135667b95030af1b09c253a50af51f9c4a78f92cb366dec655a0a73f40bca0", func := "ostler/ostlerlaw20.StableAntichain", spec := "stableAntichain", inPlace := ["internal/bytealg.IndexByteString", "internal/bytealg.IndexString"], unfollowed := true, recurses := true, named := ["internal/bytealg.MaxLen"], apart := false, narrowed := true }
def StableAntichainUptoSaid : Prop := stableAntichainUptoRow.holds Try.pinned (OpenSpec.upto stableAntichainSpec)

/-- 'ostlerlaw20.StableConstraint', WHERE WHAT IT READS IS OF BULK AT MOST 1048576: true; the input reads as it did. -/
def stableConstraintUptoRow : OpenClaim := { program := "ytfopcpmckplemaa", sum := "a2135667b95030af1b09c253a50af51f9c4a78f92cb366dec655a0a73f40bca0", func := "ostler/ostlerlaw20.StableConstraint", spec := "stableConstraint", inPlace := ["internal/bytealg.IndexByteString", "internal/bytealg.IndexString"], unfollowed := true, recurses := true, named := ["internal/bytealg.MaxLen"], apart := false, narrowed := true }
def StableConstraintUptoSaid : Prop := stableConstraintUptoRow.holds Try.pinned (OpenSpec.upto stableConstraintSpec)

/-- 'ostlerlaw20.StableChoice', WHERE WHAT IT READS IS OF BULK AT MOST 1048576: true; the input reads as it did. -/
def stableChoiceUptoRow : OpenClaim := { program := "ytfopcpmckplemaa", sum := "a2135667b95030af1b09c253a50af51f9c4a78f92cb366dec655a0a73f40bca0", func := "ostler/ostlerlaw20.StableChoice", spec := "stableChoice", inPlace := ["internal/bytealg.IndexByteString", "internal/bytealg.IndexString"], unfollowed := true, recurses := true, named := ["internal/bytealg.MaxLen"], apart := false, narrowed := true }
def StableChoiceUptoSaid : Prop := stableChoiceUptoRow.holds Try.pinned (OpenSpec.upto stableChoiceSpec)

/-- 'ostlerlaw20.StableBest', WHERE WHAT IT READS IS OF BULK AT MOST 1048576: true; the input reads as it did. -/
def stableBestUptoRow : OpenClaim := { program := "ytfopcpmckplemaa", sum := "a2135667b95030af1b09c253a50af51f9c4a78f92cb366dec655a0a73f40bca0", func := "ostler/ostlerlaw20.StableBest", spec := "stableBest", inPlace := ["internal/bytealg.IndexByteString", "internal/bytealg.IndexString"], unfollowed := true, recurses := true, named := ["internal/bytealg.MaxLen"], apart := false, narrowed := true }
def StableBestUptoSaid : Prop := stableBestUptoRow.holds Try.pinned (OpenSpec.upto stableBestSpec)

end Rows
end Go.Proofs.Ytfopcpmckplemaa

/- A contract of the shelf laid at this dump (what the shelf's own tool lay-plain printed). -/
import Derived.Shelf.Slices.In.CompactI
import Derived.Ground.Names2Prog
import Derived.Test.YtbfbkpoakmnlpaaProg
namespace Go.Proofs
open Go.Shelf
def Ytbfbkpoakmnlpaa.compactI_ren : Go.Shelf.Ren := ⟨fun | 20 => 54 | n => n, fun | 22 => 23 | 3 => 3 | 4 => 4 | 0 => 0 | n => n, fun | n => n⟩
theorem Ytbfbkpoakmnlpaa.compactI : Go.Proofs.Lays2.n20 Try.prog Ytbfbkpoakmnlpaa.compactI_ren := {
  mixed := by kernel_rfl
  f20 := Try.func54.trans (congrArg some (by kernel_rfl))
  t0 := Try.underlying0
  a0 := Try.isAgg0
  z0 := Try.sizeOf0
  v0 := Try.zeroValue0
  t3 := Try.underlying3
  a3 := Try.isAgg3
  z3 := Try.sizeOf3
  v3 := Try.zeroValue3
  t4 := Try.underlying4
  a4 := Try.isAgg4
  z4 := Try.sizeOf4
  v4 := Try.zeroValue4
  t22 := Try.underlying23
  a22 := Try.isAgg23
  z22 := Try.sizeOf23
  v22 := Try.zeroValue23
  i3 := by kernel_rfl }
end Go.Proofs

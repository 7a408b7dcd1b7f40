/- A contract of the shelf laid at this dump (what the shelf's own tool lay-plain printed). -/
import Derived.Shelf.Spec.SlicesInsertGrow
import Derived.Ground.Names2Prog
import Derived.Test.YtbfbkpoakmnlpaaProg
namespace Go.Proofs
open Go.Shelf
def Ytbfbkpoakmnlpaa.insertI_ren : Go.Shelf.Ren := ⟨fun | 21 => 59 | 27 => 76 | 28 => 77 | 35 => 94 | 39 => 101 | n => n, fun | 22 => 23 | 3 => 3 | 4 => 4 | 0 => 0 | n => n, fun | n => n⟩
theorem Ytbfbkpoakmnlpaa.insertI : Go.Proofs.Lays2.n21 Try.prog Ytbfbkpoakmnlpaa.insertI_ren := {
  mixed := by kernel_rfl
  f21 := Try.func59.trans (congrArg some (by kernel_rfl))
  f27 := Try.func76.trans (congrArg some (by kernel_rfl))
  f28 := Try.func77.trans (congrArg some (by kernel_rfl))
  f35 := Try.func94.trans (congrArg some (by kernel_rfl))
  f39 := Try.func101.trans (congrArg some (by kernel_rfl))
  t0 := Try.underlying0
  a0 := Try.isAgg0
  z0 := Try.sizeOf0
  v0 := Try.zeroValue0
  t3 := Try.underlying3
  a3 := Try.isAgg3
  z3 := Try.sizeOf3
  v3 := Try.zeroValue3
  t4 := Try.underlying4
  a4 := Try.isAgg4
  z4 := Try.sizeOf4
  v4 := Try.zeroValue4
  t22 := Try.underlying23
  a22 := Try.isAgg23
  z22 := Try.sizeOf23
  v22 := Try.zeroValue23
  i3 := by kernel_rfl }
end Go.Proofs

/- A contract of the shelf laid at this dump (what the shelf's own tool lay-plain printed). -/
import Derived.Shelf.Spec.SlicesInsertGrow
import Derived.Ground.Names2Prog
import Derived.Test.YtbfbkpoakmnlpaaGreatProg
namespace Go.Proofs
open Go.Shelf
def YtbfbkpoakmnlpaaGreat.insertI_ren : Go.Shelf.Ren := ⟨fun | 21 => 62 | 27 => 74 | 28 => 75 | 35 => 92 | 39 => 103 | n => n,fun | 22 => 23 | 3 => 3 | 4 => 4 | 0 => 0 | n => n,fun | n => n⟩
theorem YtbfbkpoakmnlpaaGreat.insertI : Go.Proofs.Lays2.n21 Tryz.prog YtbfbkpoakmnlpaaGreat.insertI_ren := {
 mixed := by kernel_rfl
 f21 := Tryz.func62.trans (congrArg some (by kernel_rfl))
 f27 := Tryz.func74.trans (congrArg some (by kernel_rfl))
 f28 := Tryz.func75.trans (congrArg some (by kernel_rfl))
 f35 := Tryz.func92.trans (congrArg some (by kernel_rfl))
 f39 := Tryz.func103.trans (congrArg some (by kernel_rfl))
 t0 := Tryz.underlying0
 a0 := Tryz.isAgg0
 z0 := Tryz.sizeOf0
 v0 := Tryz.zeroValue0
 t3 := Tryz.underlying3
 a3 := Tryz.isAgg3
 z3 := Tryz.sizeOf3
 v3 := Tryz.zeroValue3
 t4 := Tryz.underlying4
 a4 := Tryz.isAgg4
 z4 := Tryz.sizeOf4
 v4 := Tryz.zeroValue4
 t22 := Tryz.underlying23
 a22 := Tryz.isAgg23
 z22 := Tryz.sizeOf23
 v22 := Tryz.zeroValue23
 i3 := by kernel_rfl }
end Go.Proofs

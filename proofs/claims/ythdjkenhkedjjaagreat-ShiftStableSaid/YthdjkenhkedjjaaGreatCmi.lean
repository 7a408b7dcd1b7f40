/- A contract of the shelf laid at this dump (what the shelf's own tool lay-plain printed). -/
import Derived.Shelf.Slices.In.CompactI
import Derived.Ground.Names2Prog
import Derived.Test.YthdjkenhkedjjaaGreatProg
namespace Go.Proofs
open Go.Shelf
def YthdjkenhkedjjaaGreat.compactI_ren : Go.Shelf.Ren := ⟨fun | 20 => 104 | n => n,fun | 22 => 23 | 3 => 3 | 4 => 4 | 0 => 0 | n => n,fun | n => n⟩
theorem YthdjkenhkedjjaaGreat.compactI : Go.Proofs.Lays2.n20 Tryz.prog YthdjkenhkedjjaaGreat.compactI_ren := {
 mixed := by kernel_rfl
 f20 := Tryz.func104.trans (congrArg some (by kernel_rfl))
 t0 := Tryz.underlying0
 a0 := Tryz.isAgg0
 z0 := Tryz.sizeOf0
 v0 := Tryz.zeroValue0
 t3 := Tryz.underlying3
 a3 := Tryz.isAgg3
 z3 := Tryz.sizeOf3
 v3 := Tryz.zeroValue3
 t4 := Tryz.underlying4
 a4 := Tryz.isAgg4
 z4 := Tryz.sizeOf4
 v4 := Tryz.zeroValue4
 t22 := Tryz.underlying23
 a22 := Tryz.isAgg23
 z22 := Tryz.sizeOf23
 v22 := Tryz.zeroValue23
 i3 := by kernel_rfl }
end Go.Proofs

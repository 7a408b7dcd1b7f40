/- A contract of the shelf laid at this dump (what the shelf's own tool lay-plain printed). -/
import Derived.Shelf.Bits.Mul64
import Derived.Ground.NamesProg
import Derived.Test.YtbfbkpoakmnlpaaGreatProg
namespace Go.Proofs
open Go.Shelf
def YtbfbkpoakmnlpaaGreat.mulL_ren : Go.Shelf.Ren := ⟨fun | 212 => 69 | 263 => 89 | 264 => 90 | n => n,fun | 46 => 98 | 51 => 115 | 146 => 120 | 53 => 117 | 148 => 122 | n => n,fun | n => n⟩
theorem YtbfbkpoakmnlpaaGreat.mulL : Go.Proofs.Lays.n212 Tryz.prog YtbfbkpoakmnlpaaGreat.mulL_ren := {
 mixed := by kernel_rfl
 f212 := Tryz.func69.trans (congrArg some (by kernel_rfl))
 f263 := Tryz.func89.trans (congrArg some (by kernel_rfl))
 f264 := Tryz.func90.trans (congrArg some (by kernel_rfl))
 t46 := Tryz.underlying98
 a46 := Tryz.isAgg98
 z46 := Tryz.sizeOf98
 v46 := Tryz.zeroValue98
 t51 := Tryz.underlying115
 a51 := Tryz.isAgg115
 z51 := Tryz.sizeOf115
 v51 := Tryz.zeroValue115
 t53 := Tryz.underlying117
 a53 := Tryz.isAgg117
 z53 := Tryz.sizeOf117
 v53 := Tryz.zeroValue117
 t146 := Tryz.underlying120
 a146 := Tryz.isAgg120
 z146 := Tryz.sizeOf120
 v146 := Tryz.zeroValue120
 t148 := Tryz.underlying122
 a148 := Tryz.isAgg122
 z148 := Tryz.sizeOf122
 v148 := Tryz.zeroValue122 }
end Go.Proofs

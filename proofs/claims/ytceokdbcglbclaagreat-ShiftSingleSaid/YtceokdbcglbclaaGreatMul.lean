/- A contract of the shelf laid at this dump (what the shelf's own tool lay-plain printed). -/
import Derived.Shelf.Bits.Mul64
import Derived.Ground.NamesProg
import Derived.Test.YtceokdbcglbclaaGreatProg
namespace Go.Proofs
open Go.Shelf
def YtceokdbcglbclaaGreat.mulL_ren : Go.Shelf.Ren := ⟨fun | 212 => 122 | 263 => 148 | 264 => 149 | n => n,fun | 46 => 125 | 51 => 145 | 146 => 168 | 53 => 147 | 148 => 170 | n => n,fun | n => n⟩
theorem YtceokdbcglbclaaGreat.mulL : Go.Proofs.Lays.n212 Tryz.prog YtceokdbcglbclaaGreat.mulL_ren := {
 mixed := by kernel_rfl
 f212 := Tryz.func122.trans (congrArg some (by kernel_rfl))
 f263 := Tryz.func148.trans (congrArg some (by kernel_rfl))
 f264 := Tryz.func149.trans (congrArg some (by kernel_rfl))
 t46 := Tryz.underlying125
 a46 := Tryz.isAgg125
 z46 := Tryz.sizeOf125
 v46 := Tryz.zeroValue125
 t51 := Tryz.underlying145
 a51 := Tryz.isAgg145
 z51 := Tryz.sizeOf145
 v51 := Tryz.zeroValue145
 t53 := Tryz.underlying147
 a53 := Tryz.isAgg147
 z53 := Tryz.sizeOf147
 v53 := Tryz.zeroValue147
 t146 := Tryz.underlying168
 a146 := Tryz.isAgg168
 z146 := Tryz.sizeOf168
 v146 := Tryz.zeroValue168
 t148 := Tryz.underlying170
 a148 := Tryz.isAgg170
 z148 := Tryz.sizeOf170
 v148 := Tryz.zeroValue170 }
end Go.Proofs

/- A contract of the shelf laid at this dump (what the shelf's own tool lay-plain printed). -/
import Derived.Shelf.Bits.Mul64
import Derived.Ground.NamesProg
import Derived.Test.YtdkjanbfheehoaaGreatProg
namespace Go.Proofs
open Go.Shelf
def YtdkjanbfheehoaaGreat.mulL_ren : Go.Shelf.Ren := ⟨fun | 212 => 121 | 263 => 153 | 264 => 154 | n => n, fun | 46 => 104 | 51 => 137 | 146 => 171 | 53 => 139 | 148 => 173 | n => n, fun | n => n⟩
theorem YtdkjanbfheehoaaGreat.mulL : Go.Proofs.Lays.n212 Tryz.prog YtdkjanbfheehoaaGreat.mulL_ren := {
  mixed := by kernel_rfl
  f212 := Tryz.func121.trans (congrArg some (by kernel_rfl))
  f263 := Tryz.func153.trans (congrArg some (by kernel_rfl))
  f264 := Tryz.func154.trans (congrArg some (by kernel_rfl))
  t46 := Tryz.underlying104
  a46 := Tryz.isAgg104
  z46 := Tryz.sizeOf104
  v46 := Tryz.zeroValue104
  t51 := Tryz.underlying137
  a51 := Tryz.isAgg137
  z51 := Tryz.sizeOf137
  v51 := Tryz.zeroValue137
  t53 := Tryz.underlying139
  a53 := Tryz.isAgg139
  z53 := Tryz.sizeOf139
  v53 := Tryz.zeroValue139
  t146 := Tryz.underlying171
  a146 := Tryz.isAgg171
  z146 := Tryz.sizeOf171
  v146 := Tryz.zeroValue171
  t148 := Tryz.underlying173
  a148 := Tryz.isAgg173
  z148 := Tryz.sizeOf173
  v148 := Tryz.zeroValue173 }
end Go.Proofs

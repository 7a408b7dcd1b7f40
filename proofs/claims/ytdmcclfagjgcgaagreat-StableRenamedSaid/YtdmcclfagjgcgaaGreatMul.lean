/- A contract of the shelf laid at this dump (what the shelf's own tool lay-plain printed). -/
import Derived.Shelf.Bits.Mul64
import Derived.Ground.NamesProg
import Derived.Test.YtdmcclfagjgcgaaGreatProg
namespace Go.Proofs
open Go.Shelf
def YtdmcclfagjgcgaaGreat.mulL_ren : Go.Shelf.Ren := ⟨fun | 212 => 145 | 263 => 176 | 264 => 177 | n => n, fun | 46 => 136 | 51 => 163 | 146 => 175 | 53 => 165 | 148 => 177 | n => n, fun | n => n⟩
theorem YtdmcclfagjgcgaaGreat.mulL : Go.Proofs.Lays.n212 Tryz.prog YtdmcclfagjgcgaaGreat.mulL_ren := {
  mixed := by kernel_rfl
  f212 := Tryz.func145.trans (congrArg some (by kernel_rfl))
  f263 := Tryz.func176.trans (congrArg some (by kernel_rfl))
  f264 := Tryz.func177.trans (congrArg some (by kernel_rfl))
  t46 := Tryz.underlying136
  a46 := Tryz.isAgg136
  z46 := Tryz.sizeOf136
  v46 := Tryz.zeroValue136
  t51 := Tryz.underlying163
  a51 := Tryz.isAgg163
  z51 := Tryz.sizeOf163
  v51 := Tryz.zeroValue163
  t53 := Tryz.underlying165
  a53 := Tryz.isAgg165
  z53 := Tryz.sizeOf165
  v53 := Tryz.zeroValue165
  t146 := Tryz.underlying175
  a146 := Tryz.isAgg175
  z146 := Tryz.sizeOf175
  v146 := Tryz.zeroValue175
  t148 := Tryz.underlying177
  a148 := Tryz.isAgg177
  z148 := Tryz.sizeOf177
  v148 := Tryz.zeroValue177 }
end Go.Proofs

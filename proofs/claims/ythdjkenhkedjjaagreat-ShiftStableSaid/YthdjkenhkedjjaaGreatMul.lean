/- A contract of the shelf laid at this dump (what the shelf's own tool lay-plain printed). -/
import Derived.Shelf.Bits.Mul64
import Derived.Ground.NamesProg
import Derived.Test.YthdjkenhkedjjaaGreatProg
namespace Go.Proofs
open Go.Shelf
def YthdjkenhkedjjaaGreat.mulL_ren : Go.Shelf.Ren := ⟨fun | 212 => 175 | 263 => 196 | 264 => 197 | n => n,fun | 46 => 153 | 51 => 171 | 146 => 201 | 53 => 173 | 148 => 203 | n => n,fun | n => n⟩
theorem YthdjkenhkedjjaaGreat.mulL : Go.Proofs.Lays.n212 Tryz.prog YthdjkenhkedjjaaGreat.mulL_ren := {
 mixed := by kernel_rfl
 f212 := Tryz.func175.trans (congrArg some (by kernel_rfl))
 f263 := Tryz.func196.trans (congrArg some (by kernel_rfl))
 f264 := Tryz.func197.trans (congrArg some (by kernel_rfl))
 t46 := Tryz.underlying153
 a46 := Tryz.isAgg153
 z46 := Tryz.sizeOf153
 v46 := Tryz.zeroValue153
 t51 := Tryz.underlying171
 a51 := Tryz.isAgg171
 z51 := Tryz.sizeOf171
 v51 := Tryz.zeroValue171
 t53 := Tryz.underlying173
 a53 := Tryz.isAgg173
 z53 := Tryz.sizeOf173
 v53 := Tryz.zeroValue173
 t146 := Tryz.underlying201
 a146 := Tryz.isAgg201
 z146 := Tryz.sizeOf201
 v146 := Tryz.zeroValue201
 t148 := Tryz.underlying203
 a148 := Tryz.isAgg203
 z148 := Tryz.sizeOf203
 v148 := Tryz.zeroValue203 }
end Go.Proofs

/- The function with of law 19: a program of n unnamed atoms and the given rules. -/
import Derived.Test.YthdjkenhkedjjaaGreatG6
import Derived.Test.YthdjkenhkedjjaaGreatG5
namespace Go.Proofs.YthdjkenhkedjjaaGreat
open Go.RowKit
theorem info_str : (Tryz.prog.info? 9).map (fun i => (i.zero,i.size,i.bytes)) = some (some (.string ByteArray.empty),1,16) := by kernel_rfl
theorem make_str (n : Nat) (hn : n ≤ 1048576) (W : World) :
  (Instr.makeSlice 22 (.int .i64 (n : Int)) (.int .i64 (n : Int))).run Tryz.prog W = .ok (.slice (some ⟨W.heap.size,0,none⟩) n n) (W.alloc (.cells (valCells n (fun _ => .string ByteArray.empty)) 9)) := by
 have h := run_make_row' (P := Tryz.prog) 22 9 (.string ByteArray.empty) 16 Tryz.underlying22 info_str rfl .i64 .i64 n (by omega) (by omega) W
 have e : madeCells #[Value.string ByteArray.empty] n = valCells n (fun _ => .string ByteArray.empty) := by
  unfold madeCells valCells
  apply Array.ext
  ·simp
  ·intro i h1 h2
   simp [Nat.mod_one]
 rw [h,e]
def wthO (n : Nat) (rA : Option Addr) (rl rc h : Nat) : List Obj := [.cells #[.int .i64 (n : Int),.slice (some ⟨h + 1,0,none⟩) n n,.slice none 0 0,.slice rA rl rc,.slice none 0 0] 27,.cells (valCells n (fun _ => .string ByteArray.empty)) 9]
end Go.Proofs.YthdjkenhkedjjaaGreat

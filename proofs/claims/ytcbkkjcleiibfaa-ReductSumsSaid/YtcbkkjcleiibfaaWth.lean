/- The function with of law 19: a program of n unnamed atoms and the given rules. -/
import Derived.Test.YtcbkkjcleiibfaaAwk
import Derived.Test.YtcbkkjcleiibfaaMdl
import Derived.Test.YtcbkkjcleiibfaaSbs
namespace Go.Proofs.Ytcbkkjcleiibfaa
open Go.RowKit

theorem info_str : (Try.prog.info? 9).map (fun i => (i.zero, i.size, i.bytes)) = some (some (.string ByteArray.empty), 1, 16) := by kernel_rfl
/-- make([]string, n). -/
theorem make_str (n : Nat) (hn : n ≤ 1048576) (W : World) :
    (Instr.makeSlice 33 (.int .i64 (n : Int)) (.int .i64 (n : Int))).run Try.prog W = .ok (.slice (some ⟨W.heap.size, 0, none⟩) n n) (W.alloc (.cells (valCells n (fun _ => .string ByteArray.empty)) 9)) := by
  have h := run_make_row' (P := Try.prog) 33 9 (.string ByteArray.empty) 16 Try.underlying33 info_str rfl .i64 .i64 n (by omega) (by omega) W
  have e : madeCells #[Value.string ByteArray.empty] n = valCells n (fun _ => .string ByteArray.empty) := by
    unfold madeCells valCells
    apply Array.ext
    · simp
    · intro i h1 h2
      simp [Nat.mod_one]
  rw [h, e]
def wthO (n : Nat) (rA : Option Addr) (rl rc h : Nat) : List Obj := [.cells #[.int .i64 (n : Int), .slice (some ⟨h + 1, 0, none⟩) n n, .slice none 0 0, .slice rA rl rc, .slice none 0 0] 36, .cells (valCells n (fun _ => .string ByteArray.empty)) 9]
set_option maxRecDepth 100000 in
set_option maxHeartbeats 1000000 in
theorem with_any (rA : Option Addr) (rl rc : Nat) (rs : List GRule) (n : Nat) (w : World) (h : SlIs ruleR w rA rl rc rs) (hn : n ≤ 4000) :
    Calls Try.prog 20 #[.int .i64 (n : Int), .slice rA rl rc] w fun e w' => ∃ (nA : Option Addr) (nl nc : Nat), e = .returned (.agg #[.int .i64 (n : Int), .slice nA nl nc, .slice none 0 0, .slice rA rl rc, .slice none 0 0]) ∧ ProgIn w' (withP (n : Int) rs) nA nl nc none 0 0 rA rl rc none 0 0 ∧ Below w.heap.size w w' := by
  have hmk := make_str n (by omega)
  have n0 : (0 : Int) ≤ (n : Int) := by omega
  have n1 : (n : Int) ≤ 4000 := by omega
  have H := Lib.hid h; clear h
  go_enter Try.func20, Try.ntmps20
  go_wp2_with fail
  change bodyPost _ _ _ _ _ (allocs w (wthO n rA rl rc w.heap.size))
  refine bodyPost_ret (results_cell_row rfl _ _ (w.heap.size + 0) 36 _ (0, 0) _ rfl (allocs_heap (wthO n rA rl rc w.heap.size) w 0 _ rfl) Try.underlying36 rfl (by kernel_rfl)) rfl ?_
  refine ⟨some ⟨w.heap.size + 1, 0, none⟩, n, n, rfl, ⟨by constructor <;> simp [withP] <;> omega, ?_, SlIs.nil _ _, H.out.ext (allocs_bel _ _), SlIs.nil _ _⟩, allocs_bel _ _⟩
  refine sl_of_cells (allocs_blk (os := wthO n rA rl rc w.heap.size) 1 rfl) (by simp [withP]) (by omega) (fun i x hx => ?_)
  have hi : i < n := by
    have := (List.getElem?_eq_some_iff.1 hx).1
    simpa [withP] using this
  have hx' : x = ByteArray.empty := by
    simp only [withP, Int.toNat_natCast] at hx
    rw [List.getElem?_replicate, if_pos hi] at hx
    exact (Option.some.inj hx).symm
  subst hx'
  refine ⟨[.string ByteArray.empty], ⟨rfl, by simp [maxLen]⟩, fun j u hu => ?_⟩
  match j, hu with
  | 0, hu =>
    have hu' : Value.string ByteArray.empty = u := Option.some.inj hu
    subst hu'
    exact valCells_get n (fun _ => .string ByteArray.empty) (i * 1 + 0) (by omega)
  | j + 1, hu => simp at hu
end Go.Proofs.Ytcbkkjcleiibfaa

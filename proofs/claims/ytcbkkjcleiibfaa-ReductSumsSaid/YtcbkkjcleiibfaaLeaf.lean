/- Contracts of small functions over integers and lists of integers. -/
import Derived.Test.YtcbkkjcleiibfaaRows
import Derived.Test.YtcbkkjcleiibfaaBase
import Derived.Deep.QuietTactic
import Derived.BigQuiet
namespace Go.Proofs.Ytcbkkjcleiibfaa
open Go.RowKit

def litB (x n : Int) : Bool := x != 0 && (decide (-n ≤ x) && decide (x ≤ n))
set_option maxHeartbeats 400000 in
theorem literal_any (x n : Int) (w : World) (hn : 0 ≤ n) (hn2 : n ≤ 4000) :
    Calls Try.prog 57 #[.int .i64 x, .int .i64 n] w fun e w' => e = .returned (.bool (litB x n)) ∧ w = w' := by
  go_enter Try.func57, Try.ntmps57
  go_wp2
  all_goals go_ret
  all_goals exact ⟨ret_bool (by simp [litB, *] <;> omega), rfl⟩

set_option maxHeartbeats 400000 in
theorem isNaN_any (x : Int) (w : World) :
    Calls Try.prog 78 #[.int .i64 x] w fun e w' => e = .returned (.bool false) ∧ w = w' := by
  go_enter Try.func78, Try.ntmps78
  go_wp2
  all_goals go_ret
  all_goals exact ⟨ret_bool (by simp), rfl⟩
def cmpI (x y : Int) : Int := if x < y then -1 else if y < x then 1 else 0
set_option maxHeartbeats 400000 in
theorem compare_any (x y : Int) (w : World) :
    Calls Try.prog 73 #[.int .i64 x, .int .i64 y] w fun e w' => e = .returned (.int .i64 (cmpI x y)) ∧ w = w' := by
  go_enter Try.func73, Try.ntmps73
  go_wp2_with (go_at_call 78; refine (isNaN_any _ _).mono ?_; rintro e w' ⟨rfl, rfl⟩)
  all_goals go_ret
  all_goals exact ⟨ret_int (by simp [cmpI, *] <;> omega), rfl⟩
def absI (x : Int) : Int := if x < 0 then -x else x
set_option maxHeartbeats 400000 in
theorem atom_any (x : Int) (w : World) (h1 : -9223372036854775807 ≤ x) (h2 : x ≤ 9223372036854775807) :
    Calls Try.prog 74 #[.int .i64 x] w fun e w' => e = .returned (.int .i64 (absI x)) ∧ w = w' := by
  go_enter Try.func74, Try.ntmps74
  go_wp2
  all_goals go_ret
  all_goals exact ⟨ret_int (by unfold absI; split <;> omega), rfl⟩

/-- cmp.Or over a slice of ints. -/
def orI : List Int → Int
  | [] => 0
  | x :: r => if x = 0 then orI r else x
set_option maxHeartbeats 400000 in
theorem or_any (A : Option Addr) (l c : Nat) (xs : List Int) (w : World) (h : SlIs intR w A l c xs) :
    Calls Try.prog 72 #[.slice A l c] w fun e w' => e = .returned (.int .i64 (orI xs)) ∧ w = w' := by
  have hl := h.cap
  have hm := h.max
  have H := Lib.hid h; clear h
  go_enter Try.func72, Try.ntmps72
  go_wp2
  go_loop [8] (fun i => ∃ k : Nat, k ≤ l ∧ i = .int .i64 k ∧ orI xs = orI (xs.drop k)) (fun i => l - (intOf i).toNat)
  case atStart => exact ⟨0, Nat.zero_le _, rfl, rfl⟩
  case round =>
    obtain ⟨k, hk, rfl, hs⟩ := hrel
    have HS := Lib.hid hs; clear hs
    by_cases hlt : k < l
    · obtain ⟨x, hx, hd⟩ := H.out.drop hlt
      obtain ⟨b, off, rfl, _, hcell, _⟩ := H.out.int hx
      have HX := Lib.hid hx; clear hx
      have HD := Lib.hid hd; clear hd
      by_cases hx0 : (x != 0) = true
      · go_wp2
        go_ret
        exact ⟨ret_int (by rw [HS.out, HD.out, orI, if_neg (by simpa using hx0)]), rfl⟩
      · have hx1 : (x != 0) = false := by simpa using hx0
        clear hx0
        go_wp2
        go_round
        case rel => exact ⟨k + 1, by omega, by go_num, by rw [HS.out, HD.out, orI, if_pos (by simpa using hx1)]⟩
        case measure => simp [intOf]; omega
    · go_wp2
      go_ret
      exact ⟨ret_int (by rw [HS.out, H.out.stop (by omega)]; rfl), rfl⟩

end Go.Proofs.Ytcbkkjcleiibfaa

/- Contracts of gprog's tests: increasing lists, weights, rules. -/
import Derived.Test.YtcbkkjcleiibfaaGp1
namespace Go.Proofs.Ytcbkkjcleiibfaa
open Go.RowKit

theorem min_min (a b : Int) : (if a ≤ b then a else b) = min a b := by omega
def minGo (m : Int) (xs : List Int) : Int := xs.foldl min m
set_option maxHeartbeats 400000 in
theorem min_any (A : Option Addr) (l c : Nat) (x0 : Int) (xs : List Int) (w : World) (h : SlIs intR w A l c (x0 :: xs)) :
    Calls Try.prog 70 #[.slice A l c] w fun e w' => e = .returned (.int .i64 (minGo x0 xs)) ∧ w = w' := by
  have hl := h.cap
  have hm := h.max
  obtain ⟨b, off, rfl, _, hc0, _⟩ := h.int (k := 0) rfl
  simp only [Nat.add_zero] at hc0
  generalize hys : x0 :: xs = ys at *
  have hlen : 1 ≤ l := by rw [h.len, ← hys]; simp
  have hy0 : minGo x0 xs = minGo x0 (ys.drop 1) := by rw [← hys]; rfl
  clear hys
  have H := Lib.hid h; clear h
  have HY0 := Lib.hid hy0; clear hy0
  go_enter Try.func70, Try.ntmps70
  go_wp2
  go_loop [3, 4] (fun m i => ∃ (k : Nat) (z : Int), 1 ≤ k ∧ k ≤ l ∧ i = .int .i64 k ∧ m = .int .i64 z ∧ minGo x0 xs = minGo z (ys.drop k)) (fun _ i => l - (intOf i).toNat)
  case atStart => exact ⟨1, x0, by omega, hlen, rfl, rfl, HY0.out⟩
  case round =>
    obtain ⟨k, z, hk1, hk, rfl, rfl, hs⟩ := hrel
    have HS := Lib.hid hs; clear hs
    by_cases hlt : k < l
    · obtain ⟨x, hx, hd⟩ := H.out.drop hlt
      obtain ⟨_, _, he, _, hcell, _⟩ := H.out.int hx
      cases he
      have HX := Lib.hid hx; clear hx
      have HD := Lib.hid hd; clear hd
      go_wp2
      all_goals
        go_round
        case rel => exact ⟨k + 1, _, by omega, by omega, by go_num, rfl, by rw [HS.out, HD.out]; unfold minGo; rw [List.foldl_cons]; congr 1; omega⟩
        case measure => simp [intOf]; omega
    · go_wp2
      go_ret
      exact ⟨ret_int (by rw [HS.out, H.out.stop (by omega)]; rfl), rfl⟩

theorem minGo_pos (m : Int) (xs : List Int) : decide (0 < minGo m xs) = (decide (0 < m) && xs.all (fun x => decide (0 < x))) := by
  induction xs generalizing m with
  | nil => exact (Bool.and_true _).symm
  | cons x r ih =>
    have h1 : minGo m (x :: r) = minGo (min m x) r := rfl
    rw [h1, ih, List.all_cons, ← Bool.and_assoc]
    congr 1
    rw [Bool.eq_iff_iff]; simp; omega

def incB (n : Int) (xs : List Int) : Bool := ordB n xs && xs.all (fun x => decide (0 < x))
set_option maxHeartbeats 400000 in
theorem increasing_any (A : Option Addr) (l c : Nat) (xs : List Int) (n : Int) (w : World) (h : SlIs intR w A l c xs) (hn : 0 ≤ n) (hn2 : n ≤ 4000) :
    Calls Try.prog 55 #[.slice A l c, .int .i64 n] w fun e w' => e = .returned (.bool (incB n xs)) ∧ Below w.heap.size w w' := by
  have hl := h.cap
  have hm := h.max
  have hlen := h.len
  have H := Lib.hid h; clear h
  by_cases ho : ordB n xs = true
  · cases xs with
    | nil =>
      obtain rfl : l = 0 := hlen
      go_enter Try.func55, Try.ntmps55
      go_wp2_with fail
      go_fit (ordered_any A 0 c [] n w H.out hn hn2); rintro e w1 ⟨rfl, hb1⟩
      have HB := Lib.hid hb1; clear hb1
      go_wp2_with fail
      go_ret
      exact ⟨rfl, HB.out⟩
    | cons x r =>
      have hlen2 : ((l : Int) == 0) = false := by simp at hlen; simp; omega
      clear hlen
      go_enter Try.func55, Try.ntmps55
      go_wp2_with fail
      go_fit (ordered_any A l c (x :: r) n w H.out hn hn2); rintro e w1 ⟨rfl, hb1⟩
      have HB := Lib.hid hb1; clear hb1
      go_wp2_with fail
      go_fit (min_any A l c x r w1 (H.out.ext HB.out)); rintro e w' ⟨rfl, rfl⟩
      go_wp2_with fail
      all_goals go_ret
      all_goals exact ⟨ret_bool (by simp only [incB, ho, Bool.true_and, List.all_cons, ← minGo_pos]), HB.out⟩
  · have hf : ordB n xs = false := by simpa using ho
    clear ho hlen
    go_enter Try.func55, Try.ntmps55
    go_wp2_with fail
    go_fit (ordered_any A l c xs n w H.out hn hn2); rintro e w1 ⟨rfl, hb1⟩
    have HB := Lib.hid hb1; clear hb1
    go_wp2_with fail
    go_ret
    exact ⟨ret_bool (by simp [incB, hf]), HB.out⟩

/-- The weights are from 1 on and their sum, with s, is at most the greatest weight. -/
def wtGo (s : Int) : List Int → Bool
  | [] => true
  | x :: r => decide (1 ≤ x) && decide (x ≤ 1048576 - s) && wtGo (s + x) r
def wtB (xs : List Int) (k : Nat) : Bool := wtGo 0 xs && decide (xs.length = k)
set_option maxHeartbeats 400000 in
theorem weights_any (A : Option Addr) (l c : Nat) (xs : List Int) (n : Nat) (w : World) (h : SlIs intR w A l c xs) :
    Calls Try.prog 36 #[.slice A l c, .int .i64 n] w fun e w' => e = .returned (.bool (wtB xs n)) ∧ w = w' := by
  have hl := h.cap
  have hm := h.max
  have H := Lib.hid h; clear h
  go_enter Try.func36, Try.ntmps36
  go_wp2
  go_loop [5, 10] (fun s i => ∃ (k : Nat) (z : Int), k ≤ l ∧ i = .int .i64 k ∧ s = .int .i64 z ∧ 0 ≤ z ∧ z ≤ 1048576 ∧ wtGo 0 xs = wtGo z (xs.drop k)) (fun _ i => l - (intOf i).toNat)
  case atStart => exact ⟨0, 0, by omega, rfl, rfl, by omega, by omega, rfl⟩
  case round =>
    obtain ⟨k, z, hk, rfl, rfl, hz1, hz2, hs⟩ := hrel
    have HS := Lib.hid hs; clear hs
    by_cases hlt : k < l
    · obtain ⟨x, hx, hd⟩ := H.out.drop hlt
      obtain ⟨b, off, rfl, _, hcell, hx64⟩ := H.out.int hx
      unfold I64 at hx64
      obtain ⟨hxa, hxb⟩ := hx64
      have HX := Lib.hid hx; clear hx
      have HD := Lib.hid hd; clear hd
      by_cases h1 : x < 1
      · go_wp2
        go_ret
        exact ⟨ret_bool (by rw [wtB, HS.out, HD.out, wtGo, decide_eq_false (by omega)]; simp), rfl⟩
      · by_cases h2 : 1048576 - z < x
        · go_wp2
          go_ret
          exact ⟨ret_bool (by rw [wtB, HS.out, HD.out, wtGo, decide_eq_true (by omega), decide_eq_false (by omega)]; simp), rfl⟩
        · go_wp2
          go_round
          case rel => exact ⟨k + 1, z + x, by omega, by go_num, rfl, by omega, by omega, by rw [HS.out, HD.out, wtGo, decide_eq_true (by omega), decide_eq_true (by omega)]; simp⟩
          case measure => simp [intOf]; omega
    · go_wp2
      go_ret
      exact ⟨ret_bool (by rw [wtB, HS.out, H.out.stop (by omega), ← H.out.len, Bool.eq_iff_iff]; simp [wtGo]; omega), rfl⟩

end Go.Proofs.Ytcbkkjcleiibfaa

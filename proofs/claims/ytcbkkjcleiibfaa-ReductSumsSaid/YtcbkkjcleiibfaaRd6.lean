/- Contracts: reduct.Least, Body. -/
import Derived.Test.YtcbkkjcleiibfaaRd5
namespace Go.Proofs.Ytcbkkjcleiibfaa
open Go.RowKit

set_option maxRecDepth 100000 in
set_option maxHeartbeats 1000000 in
theorem least_not (rA : Option Addr) (rl rc : Nat) (rs : List GRule) (n : Int) (w : World) (h : SlIs ruleR w rA rl rc rs) (hd : defB n rs = false) :
    Calls Try.prog 11 #[.int .i64 n, .slice rA rl rc] w fun e w' => e = .returned (.tuple #[.slice none 0 0, .int .i64 2]) ∧ Below w.heap.size w w' := by
  have H := Lib.hid h; clear h
  have HD := Lib.hid hd; clear hd
  go_enter Try.func11, Try.ntmps11
  go_wp2_with fail
  go_fit (rounds_not rA rl rc rs n w H.out HD.out); rintro e w1 ⟨rfl, hb1⟩
  have HB1 := Lib.hid hb1; clear hb1
  go_wp2_with fail
  go_ret2
  exact ⟨by rfl, HB1.out⟩

set_option maxRecDepth 100000 in
set_option maxHeartbeats 1000000 in
theorem least_any (rA : Option Addr) (rl rc : Nat) (rs : List GRule) (N : Nat) (w : World) (h : SlIs ruleR w rA rl rc rs) (hd : defB N rs = true) :
    Calls Try.prog 11 #[.int .i64 N, .slice rA rl rc] w fun e w' => ∃ A l c, e = .returned (.tuple #[.slice A l c, .int .i64 0]) ∧ SlIs intR w' A l c (leastL rs N) ∧ Below w.heap.size w w' := by
  have hN : N ≤ 4000 := by
    unfold defB at hd; simp only [Bool.and_eq_true, decide_eq_true_eq] at hd; omega
  have H := Lib.hid h; clear h
  have HD := Lib.hid hd; clear hd
  go_enter Try.func11, Try.ntmps11
  go_wp2_with fail
  go_fit (rounds_any rA rl rc rs N w H.out HD.out); rintro e w1 ⟨oA, ol, oc, rfl, hsl, hb1⟩
  have holc := hsl.cap
  have hom := hsl.max
  have hlen : ol = N := by rw [hsl.len]; simp [roundsL]
  subst hlen
  have HSL := Lib.hid hsl; clear hsl
  have HB1 := Lib.hid hb1; clear hb1
  go_wp2_with fail
  go_loopw [8, 22] (fun v t wr => ∃ (k lv : Nat), k ≤ ol ∧ t = .int .i64 (k : Int) ∧ OwnI wr w1.heap.size v lv (((List.range k).filter (fun (i : Nat) => decide (0 < (stageF rs ol ol).1 i))).map (fun (i : Nat) => (i : Int) + 1)) ∧ Below w1.heap.size w1 wr) (fun _ t _ => ol - (intOf t).toNat)
  case atStart => exact ⟨0, 0, Nat.zero_le _, rfl, OwnI.nil _ _, Below.refl _ _⟩
  case round =>
    obtain ⟨k, lv, hk, rfl, hown, hbw⟩ := hrel
    have hlv : lv ≤ 4000 := by
      rw [hown.len]
      have := List.length_filter_le (fun (i : Nat) => decide (0 < (stageF rs ol ol).1 i)) (List.range k)
      simp at this ⊢; omega
    have H1 := Lib.hid (HSL.out.ext hbw)
    have hzz := hbw.size
    by_cases hlt : k < ol
    · have hx : (roundsL rs ol)[k]? = some ((stageF rs ol ol).1 k) := by unfold roundsL; simp [hlt]
      generalize hz : (stageF rs ol ol).1 k = z at *
      have hst : ((List.range (k + 1)).filter (fun (i : Nat) => decide (0 < (stageF rs ol ol).1 i))).map (fun (i : Nat) => (i : Int) + 1) = if 0 < z then ((List.range k).filter (fun (i : Nat) => decide (0 < (stageF rs ol ol).1 i))).map (fun (i : Nat) => (i : Int) + 1) ++ [(k : Int) + 1] else ((List.range k).filter (fun (i : Nat) => decide (0 < (stageF rs ol ol).1 i))).map (fun (i : Nat) => (i : Int) + 1) := by
        rw [List.range_succ, List.filter_append, List.map_append]
        by_cases h0 : 0 < z
        · rw [if_pos h0]; simp [hz, h0]
        · rw [if_neg h0]; simp [hz, h0]
      obtain ⟨b, off, rfl, _, hcell, _⟩ := H1.out.int hx
      by_cases h0 : 0 < z
      · obtain ⟨v', w3, hrun, hown3, hg3, hat3⟩ := app1 hown ((k : Int) + 1) (by omega) hzz 24
        have hb3 := bel_grown hbw hg3 hzz (fun q hq => (hown.2.lt q hq).1)
        have HX := Lib.hid hx; clear hx
        have HZ := Lib.hid hz; clear hz
        have HST := Lib.hid hst; clear hst
        have HOWN := Lib.hid hown; clear hown
        have HBW := Lib.hid hbw; clear hbw
        have HRUN := Lib.hid hrun; clear hrun
        have HOWN3 := Lib.hid hown3; clear hown3
        have HG3 := Lib.hid hg3; clear hg3
        have HAT3 := Lib.hid hat3; clear hat3
        have HB3 := Lib.hid hb3; clear hb3
        go_wp2_with (at_builtin; refine wpList_append_run rfl _ _ _ rfl _ _ rfl rfl _ _ HRUN.out ?_)
        go_roundw
        case rel => exact ⟨k + 1, lv + 1, by omega, by go_num, by rw [HST.out, if_pos h0]; exact HOWN3.out, HB3.out⟩
        case measure => simp [intOf]; omega
      · have HX := Lib.hid hx; clear hx
        have HZ := Lib.hid hz; clear hz
        have HST := Lib.hid hst; clear hst
        have HOWN := Lib.hid hown; clear hown
        have HBW := Lib.hid hbw; clear hbw
        go_wp2_with fail
        go_roundw
        case rel => exact ⟨k + 1, lv, by omega, by go_num, by rw [HST.out, if_neg h0]; exact HOWN.out, HBW.out⟩
        case measure => simp [intOf]; omega
    · have hkk : k = ol := by omega
      obtain ⟨vA, vc, hv, hsv⟩ := hown.sl (by omega) (fun x hx => by
        obtain ⟨i, hi, rfl⟩ := List.mem_map.1 hx
        have := List.mem_range.1 (List.mem_filter.1 hi).1
        unfold I64; omega)
      have HOWN := Lib.hid hown; clear hown
      have HBW := Lib.hid hbw; clear hbw
      have HKK := Lib.hid hkk; clear hkk
      have HV := Lib.hid hv; clear hv
      have HSV := Lib.hid hsv; clear hsv
      go_wp2_with fail
      go_ret2
      exact ⟨vA, lv, vc, by rw [← HV.out]; rfl, by have h1 := HSV.out; rw [HKK.out] at h1; exact h1, bel_trans HB1.out HBW.out⟩
end Go.Proofs.Ytcbkkjcleiibfaa

/- The law ReductLeast: for every list of rules it answers true and changes nothing that was there. -/
import Derived.Test.YtcbkkjcleiibfaaAwk
namespace Go.Proofs.Ytcbkkjcleiibfaa
open Go.RowKit

set_option maxRecDepth 100000 in
set_option maxHeartbeats 4000000 in
theorem reductLeast_any (rA : Option Addr) (rl rc : Nat) (rs : List GRule) (n : Int) (w : World) (h : SlIs ruleR w rA rl rc rs) (hn : I64 n) :
    Calls Try.prog 3 #[.int .i64 n, .slice rA rl rc] w fun e w' => e = .returned (.bool true) ∧ Below w.heap.size w w' := by
  have hrc := h.cap
  have hrm := h.max
  have n0 := hn.1
  have n1 := hn.2
  clear hn
  have cA := awake_any
  have H := Lib.hid h; clear h
  have CA := Lib.hid cA; clear cA
  by_cases ha : 12 < n ∧ n ≤ 4000
  · obtain ⟨a1, a2⟩ := ha
    go_enter Try.func3, Try.ntmps3
    go_wp2_with fail
    go_fit (CA.out _); rintro e w' ⟨rfl, hb⟩
    go_wp2_with fail
    go_ret
    exact ⟨rfl, hb⟩
  · by_cases hl : 20 < rl
    · have l1 : decide ((20 : Int) < (rl : Int)) = true := decide_eq_true (by omega)
      by_cases h12 : 12 < n
      all_goals
        go_enter Try.func3, Try.ntmps3
        go_wp2_with fail
        go_fit (CA.out _); rintro e w' ⟨rfl, hb⟩
        go_wp2_with fail
        go_ret
        exact ⟨rfl, hb⟩
    · have l1 : decide ((20 : Int) < (rl : Int)) = false := decide_eq_false (by omega)
      have l2 : decide (20 < rl) = false := decide_eq_false hl
      have hc : (12 < n ∧ ¬ n ≤ 4000) ∨ ¬ 12 < n := by omega
      clear ha
      rcases hc with ⟨h12, h40⟩ | h12
      all_goals
        go_enter Try.func3, Try.ntmps3
        go_wp2_with fail
        go_loopw [25] (fun t wr => ∃ k : Nat, k ≤ rl ∧ t = .int .i64 (k : Int) ∧ Below w.heap.size w wr) (fun t _ => rl - (intOf t).toNat)
        case atStart => exact ⟨0, Nat.zero_le _, rfl, Below.refl _ _⟩
        case round =>
          obtain ⟨k, hk, rfl, hb⟩ := hrel
          have HW := Lib.hid (H.out.ext hb)
          by_cases hlt : k < rl
          · obtain ⟨r, hri, -⟩ := H.out.drop hlt
            obtain ⟨b, off, hA, hl', hc, bA, bl, bc, wA, wl, wc, rfl, hbl2, c0, c1, c2, c3, c4, c5, g1, g2, g3, g4⟩ := HW.out.rule hri
            have s1 := g1.small
            have s2 := g3.small
            have s3 := g4.small
            have k0 : (0 : Int) ≤ (k : Int) := by omega
            have k1 : (k : Int) < (rl : Int) := by omega
            have HB := Lib.hid hb
            clear hb
            have HRI := Lib.hid hri; clear hri
            have G1 := Lib.hid g1; clear g1
            have G2 := Lib.hid g2; clear g2
            have G3 := Lib.hid g3; clear g3
            have G4 := Lib.hid g4; clear g4
            by_cases hgt : (36 : Int) < (hl' : Int) + (bl : Int) + (wl : Int)
            · go_wp2_with fail
              go_fit (CA.out _); rintro e w' ⟨rfl, hb'⟩
              have HB2 := Lib.hid (bel_trans (bel_trans HB.out (bel_alloc _ _)) hb')
              clear hb'
              go_wp2_with fail
              go_ret
              exact ⟨rfl, HB2.out⟩
            · have hb2 := Lib.hid (bel_trans HB.out (bel_alloc wr (.cells #[.bool r.choice, .slice hA hl' hc, .bool r.sum, .int .i64 r.bound, .slice bA bl bc, .slice wA wl wc] 26)))
              go_wp2_with fail
              go_roundw
              case rel => exact ⟨k + 1, by omega, by go_num, hb2.out⟩
              case measure => simp [intOf]; omega
          · have HB := Lib.hid hb
            clear hb
            cases hd : defB n rs with
            | true =>
              have h0 : 0 ≤ n := by
                unfold defB at hd; simp only [Bool.and_eq_true, decide_eq_true_eq] at hd; exact hd.1.1.1
              obtain ⟨N, rfl⟩ : ∃ N : Nat, n = (N : Int) := ⟨n.toNat, by omega⟩
              have cD := fun W (hb : Below wr.heap.size wr W) => refDefinite_any rA rl rc rs N W (HW.out.ext hb)
              rw [hd] at cD
              have HD := Lib.hid hd; clear hd
              have CD := Lib.hid cD; clear cD
              go_wp2_with fail
              go_fit (rounds_any rA rl rc rs N _ HW.out HD.out); rintro e w1 ⟨aA, al, ac, rfl, ha, hb1⟩
              have HA := Lib.hid ha; clear ha
              have HB1 := Lib.hid hb1; clear hb1
              go_wp2_with fail
              go_fit (least_any rA rl rc rs N _ (HW.out.ext HB1.out) HD.out); rintro e w2 ⟨bA, bl, bc, rfl, hbb, hb2⟩
              have ha2 := HA.out.ext hb2
              have hB2 := bel_trans HB1.out hb2
              clear hb2
              have HBB := Lib.hid hbb; clear hbb
              have HA2 := Lib.hid ha2; clear ha2
              have HB2 := Lib.hid hB2; clear hB2
              go_wp2_with fail
              go_fit (CD.out _ HB2.out); rintro e w3 ⟨rfl, hb3⟩
              have ha3 := HA2.out.ext hb3
              have hbb3 := HBB.out.ext hb3
              have hB3 := bel_trans HB2.out hb3
              clear hb3
              have HBB3 := Lib.hid hbb3; clear hbb3
              have HA3 := Lib.hid ha3; clear ha3
              have HB3 := Lib.hid hB3; clear hB3
              go_wp2_with fail
              go_fit (refRounds_any rA rl rc rs N _ (HW.out.ext HB3.out) HD.out); rintro e w4 ⟨cA, cl, cc, rfl, hc4, hb4⟩
              have ha4 := HA3.out.ext hb4
              have hbb4 := HBB3.out.ext hb4
              have hB4 := bel_trans HB3.out hb4
              clear hb4
              have HBB4 := Lib.hid hbb4; clear hbb4
              have HA4 := Lib.hid ha4; clear ha4
              have HB4 := Lib.hid hB4; clear hB4
              have HC4 := Lib.hid hc4; clear hc4
              go_wp2_with fail
              go_fit (lawInts_any aA al ac cA cl cc (roundsL rs N) (roundsL rs N) _ HA4.out HC4.out); rintro e w5 ⟨rfl, hb5⟩
              rw [show decide (roundsL rs N = roundsL rs N) = true from by simp]
              have hbb5 := HBB4.out.ext hb5
              have hB5 := bel_trans HB4.out hb5
              clear hb5
              have HBB5 := Lib.hid hbb5; clear hbb5
              have HB5 := Lib.hid hB5; clear hB5
              go_wp2_with fail
              go_fit (refLeast_any rA rl rc rs N _ (HW.out.ext HB5.out) HD.out); rintro e w6 ⟨dA, dl, dc, rfl, hd6, hb6⟩
              have hbb6 := HBB5.out.ext hb6
              have hB6 := bel_trans HB5.out hb6
              clear hb6
              have HBB6 := Lib.hid hbb6; clear hbb6
              have HB6 := Lib.hid hB6; clear hB6
              have HD6 := Lib.hid hd6; clear hd6
              go_wp2_with fail
              go_fit (lawInts_any bA bl bc dA dl dc (leastL rs N) (leastL rs N) _ HBB6.out HD6.out); rintro e w7 ⟨rfl, hb7⟩
              rw [show decide (leastL rs N = leastL rs N) = true from by simp]
              have hB7 := bel_trans HB6.out hb7
              clear hb7
              have HB7 := Lib.hid hB7; clear hB7
              go_wp2_with fail
              go_fit (CA.out _); rintro e w8 ⟨rfl, hb8⟩
              have HB8 := Lib.hid (bel_trans (bel_trans HB.out HB7.out) hb8)
              clear hb8
              go_wp2_with fail
              go_ret
              exact ⟨rfl, HB8.out⟩
            | false =>
              have cD := fun W (hb : Below wr.heap.size wr W) => refDefinite_any rA rl rc rs n W (HW.out.ext hb)
              rw [hd] at cD
              have HD := Lib.hid hd; clear hd
              have CD := Lib.hid cD; clear cD
              go_wp2_with fail
              go_fit (rounds_not rA rl rc rs n _ HW.out HD.out); rintro e w1 ⟨rfl, hb1⟩
              have HB1 := Lib.hid hb1; clear hb1
              go_wp2_with fail
              go_fit (least_not rA rl rc rs n _ (HW.out.ext HB1.out) HD.out); rintro e w2 ⟨rfl, hb2⟩
              have hB2 := bel_trans HB1.out hb2
              clear hb2
              have HB2 := Lib.hid hB2; clear hB2
              go_wp2_with fail
              go_fit (CD.out _ HB2.out); rintro e w3 ⟨rfl, hb3⟩
              have hB3 := bel_trans HB2.out hb3
              clear hb3
              have HB3 := Lib.hid hB3; clear hB3
              go_wp2_with fail
              go_fit (CA.out _); rintro e w8 ⟨rfl, hb8⟩
              have HB8 := Lib.hid (bel_trans (bel_trans HB.out HB3.out) hb8)
              clear hb8
              go_wp2_with fail
              go_ret
              exact ⟨rfl, HB8.out⟩
end Go.Proofs.Ytcbkkjcleiibfaa

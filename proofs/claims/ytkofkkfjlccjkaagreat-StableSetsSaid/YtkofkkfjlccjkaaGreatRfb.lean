/- Contracts of the reference: Better, Set. -/
import Derived.Test.YtkofkkfjlccjkaaGreatSw4
namespace Go.Proofs.YtkofkkfjlccjkaaGreat
open Go.RowKit

set_option maxRecDepth 100000 in
set_option maxHeartbeats 2000000 in
theorem refBetter_any (aA : Option Addr) (al ac : Nat) (bA : Option Addr) (bl bc : Nat) (xs ys : List Int) (w : World) (ha : SlIs intR w aA al ac xs) (hb : SlIs intR w bA bl bc ys) :
    Calls Tryz.prog 31 #[.slice aA al ac, .slice bA bl bc] w fun e w' => e = .returned (.bool (betB xs ys)) ∧ Below w.heap.size w w' := by
  have hl := ha.cap
  have hm := ha.max
  have hl2 := hb.cap
  have hm2 := hb.max
  have hsm := ha.small
  have HA := Lib.hid ha; clear ha
  have HB := Lib.hid hb; clear hb
  go_enter Tryz.func31, Tryz.ntmps31
  go_wp2_with fail
  go_loopw [5] (fun t wr => ∃ (k : Nat), k ≤ al ∧ k ≤ bl ∧ t = .int .i64 (k : Int) ∧ Below w.heap.size w wr ∧ betB xs ys = betB (xs.drop k) (ys.drop k)) (fun t _ => al - (intOf t).toNat)
  case atStart => exact ⟨0, Nat.zero_le _, Nat.zero_le _, rfl, Below.refl _ _, rfl⟩
  case round =>
    obtain ⟨k, hk, hk2, rfl, hbw, hs⟩ := hrel
    by_cases hlt : k < al
    · by_cases hlt2 : k < bl
      · obtain ⟨x, hx, hd⟩ := HA.out.drop hlt
        obtain ⟨y, hy, hdy⟩ := HB.out.drop hlt2
        obtain ⟨b1, o1, rfl, _, cx, _⟩ := (HA.out.ext hbw).int hx
        obtain ⟨b2, o2, rfl, _, cy, _⟩ := (HB.out.ext hbw).int hy
        have k0 : (0 : Int) ≤ (k : Int) := by omega
        have k1 : (k : Int) < (al : Int) := by omega
        have k2 : (k : Int) < (bl : Int) := by omega
        rw [hd, hdy, betB_cons] at hs
        by_cases h1 : x = y
        · have e1 : (x != y) = false := by simp [h1]
          rw [if_pos h1] at hs
          have HX := Lib.hid hx; clear hx
          have HD := Lib.hid hd; clear hd
          have HY := Lib.hid hy; clear hy
          have HDY := Lib.hid hdy; clear hdy
          have HS := Lib.hid hs; clear hs
          have H1 := Lib.hid h1; clear h1
          go_wp2_with fail
          refine wp_region_later [(⟨b1, o1 + k, none⟩, .int .i64 x), (⟨b2, o2 + k, none⟩, .int .i64 y)] (by kernel_rfl) (by kernel_rfl) (by simp [go_sem, *]) ?_
          intro hk; simp only [List.forall_mem_cons] at hk; obtain ⟨k1_0, k1_1, kz⟩ := hk; clear kz
          repeat go_big_quiet_step (fail)
          refine wpQuiet_nil ?_
          rintro w2 ⟨u1, rfl⟩
          have HU1 := Lib.hid u1.h
          clear k1_0 k1_1
          have hbu := bel_trans hbw HU1.out
          have HBW := Lib.hid hbw; clear hbw
          have HBU := Lib.hid hbu; clear hbu
          go_wp2_with fail
          go_roundw
          case rel => exact ⟨k + 1, by omega, by omega, by go_num, HBU.out, HS.out⟩
          case measure => simp [intOf]; omega
        · have e1 : (x != y) = true := by simp [h1]
          rw [if_neg h1] at hs
          have HX := Lib.hid hx; clear hx
          have HD := Lib.hid hd; clear hd
          have HY := Lib.hid hy; clear hy
          have HDY := Lib.hid hdy; clear hdy
          have H1 := Lib.hid h1; clear h1
          go_wp2_with fail
          refine wp_region_later [(⟨b1, o1 + k, none⟩, .int .i64 x), (⟨b2, o2 + k, none⟩, .int .i64 y)] (by kernel_rfl) (by kernel_rfl) (by simp [go_sem, *]) ?_
          intro hk; simp only [List.forall_mem_cons] at hk; obtain ⟨k1_0, k1_1, kz⟩ := hk; clear kz
          repeat go_big_quiet_step (fail)
          refine wpQuiet_nil ?_
          rintro w2 ⟨u1, rfl⟩
          have HU1 := Lib.hid u1.h
          clear k1_0 k1_1
          have hbu := bel_trans hbw HU1.out
          have cx2 := (HU1.out.cell (World.block_lt_of_cell? _ _ cx)).trans cx
          have cy2 := (HU1.out.cell (World.block_lt_of_cell? _ _ cy)).trans cy
          clear cx cy
          by_cases h2 : x < y
          · have e2 : decide (x < y) = true := decide_eq_true h2
            rw [e2] at hs
            have HS := Lib.hid hs; clear hs
            go_wp2_with fail
            refine wp_region_later [(⟨b1, o1 + k, none⟩, .int .i64 x), (⟨b2, o2 + k, none⟩, .int .i64 y)] (by kernel_rfl) (by kernel_rfl) (by simp [go_sem, *]) ?_
            intro hk; simp only [List.forall_mem_cons] at hk; obtain ⟨k2_0, k2_1, kz⟩ := hk; clear kz
            repeat go_big_quiet_step (fail)
            refine wpQuiet_nil ?_
            rintro w2 ⟨u2, rfl⟩
            have HU2 := Lib.hid u2.h
            clear k2_0 k2_1
            have hbv := bel_trans hbu HU2.out
            have HBW := Lib.hid hbw; clear hbw
            have HBU := Lib.hid hbu; clear hbu
            have HBV := Lib.hid hbv; clear hbv
            go_wp2_with fail
            go_ret
            exact ⟨ret_bool (by rw [HS.out]), HBV.out⟩
          · have e2 : decide (x < y) = false := decide_eq_false h2
            rw [e2] at hs
            have HS := Lib.hid hs; clear hs
            go_wp2_with fail
            refine wp_region_later [(⟨b1, o1 + k, none⟩, .int .i64 x), (⟨b2, o2 + k, none⟩, .int .i64 y)] (by kernel_rfl) (by kernel_rfl) (by simp [go_sem, *]) ?_
            intro hk; simp only [List.forall_mem_cons] at hk; obtain ⟨k2_0, k2_1, kz⟩ := hk; clear kz
            repeat go_big_quiet_step (fail)
            refine wpQuiet_nil ?_
            rintro w2 ⟨u2, rfl⟩
            have HU2 := Lib.hid u2.h
            clear k2_0 k2_1
            have hbv := bel_trans hbu HU2.out
            have HBW := Lib.hid hbw; clear hbw
            have HBU := Lib.hid hbu; clear hbu
            have HBV := Lib.hid hbv; clear hbv
            go_wp2_with fail
            go_ret
            exact ⟨ret_bool (by rw [HS.out]), HBV.out⟩
      · rw [HB.out.stop (show bl ≤ k by omega), betB_nil] at hs
        have HS := Lib.hid hs; clear hs
        have HBW := Lib.hid hbw; clear hbw
        go_wp2_with fail
        go_ret
        exact ⟨ret_bool (by rw [HS.out]), HBW.out⟩
    · rw [HA.out.stop (show al ≤ k by omega), betB_nil'] at hs
      have HS := Lib.hid hs; clear hs
      have HBW := Lib.hid hbw; clear hbw
      go_wp2_with fail
      go_ret
      exact ⟨ret_bool (by rw [HS.out]), HBW.out⟩
set_option maxRecDepth 100000 in
set_option maxHeartbeats 1000000 in
theorem refSet_any (lA : Option Addr) (ll lc : Nat) (xs : List Int) (n : Int) (w : World) (h : SlIs intR w lA ll lc xs) :
    Calls Tryz.prog 17 #[.slice lA ll lc, .int .i64 n] w fun e w' => e = .returned (.bool (incB n xs)) ∧ Below w.heap.size w w' := by
  have c := refAtoms_any lA ll lc xs n w h
  have C := Lib.hid c; clear c
  have H := Lib.hid h; clear h
  go_enter Tryz.func17, Tryz.ntmps17
  go_wp2_with fail
  go_fit C.out; rintro e w1 ⟨rfl, hb⟩
  have HB := Lib.hid hb; clear hb
  go_wp2_with fail
  go_ret
  exact ⟨rfl, HB.out⟩
end Go.Proofs.YtkofkkfjlccjkaaGreat

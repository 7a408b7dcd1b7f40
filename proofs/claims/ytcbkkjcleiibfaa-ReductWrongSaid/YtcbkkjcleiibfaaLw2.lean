/- The law ReductWrong: it answers true and changes nothing that was there. -/
import Derived.Test.YtcbkkjcleiibfaaWr1
import Derived.Test.YtcbkkjcleiibfaaFew
namespace Go.Proofs.Ytcbkkjcleiibfaa
open Go.RowKit

theorem fewB_n {p : GProg} (h : fewB p = true) : p.n ≤ 12 := by
  unfold fewB at h; simp only [Bool.and_eq_true, decide_eq_true_eq] at h; exact h.1.1.1.1.1
theorem validE_n {p : GProg} (h : validE p = 0) : 0 ≤ p.n := (namedB_n (validE_is h).named).1

theorem wr_models (p : GProg) (nA : Option Addr) (nl nc : Nat) (sA : Option Addr) (sl sc : Nat) (rA : Option Addr) (rl rc : Nat) (mA : Option Addr) (ml mc : Nat) (xA : Option Addr) (xl xc : Nat) (m : List Int) (c : Int) (w : World) (hp : ProgIn w p nA nl nc sA sl sc rA rl rc mA ml mc) (hm : SlIs intR w xA xl xc m) (h : checkE p m = c) (hc : c ≠ 0) :
    Calls Try.prog 21 #[.agg #[.int .i64 p.n, .slice nA nl nc, .slice sA sl sc, .slice rA rl rc, .slice mA ml mc], .slice xA xl xc] w fun e w' => e = .returned (.tuple #[.bool false, .int .i64 c]) ∧ Below w.heap.size w w' := by
  have := models_any p nA nl nc sA sl sc rA rl rc mA ml mc xA xl xc m w hp hm
  rw [h, show (decide (c = 0) && modelB p m) = false by simp [hc]] at this
  exact this
theorem wr_broken (p : GProg) (nA : Option Addr) (nl nc : Nat) (sA : Option Addr) (sl sc : Nat) (rA : Option Addr) (rl rc : Nat) (mA : Option Addr) (ml mc : Nat) (xA : Option Addr) (xl xc : Nat) (m : List Int) (c : Int) (w : World) (hp : ProgIn w p nA nl nc sA sl sc rA rl rc mA ml mc) (hm : SlIs intR w xA xl xc m) (h : checkE p m = c) (hc : c ≠ 0) :
    Calls Try.prog 22 #[.agg #[.int .i64 p.n, .slice nA nl nc, .slice sA sl sc, .slice rA rl rc, .slice mA ml mc], .slice xA xl xc] w fun e w' => e = .returned (.tuple #[.int .i64 0, .int .i64 c]) ∧ Below w.heap.size w w' := by
  have := broken_any p nA nl nc sA sl sc rA rl rc mA ml mc xA xl xc m w hp hm
  rw [h, if_neg hc] at this
  exact this
theorem wr_reduct (p : GProg) (nA : Option Addr) (nl nc : Nat) (sA : Option Addr) (sl sc : Nat) (rA : Option Addr) (rl rc : Nat) (mA : Option Addr) (ml mc : Nat) (xA : Option Addr) (xl xc : Nat) (m : List Int) (c : Int) (w : World) (hp : ProgIn w p nA nl nc sA sl sc rA rl rc mA ml mc) (hm : SlIs intR w xA xl xc m) (h : checkE p m = c) (hc : c ≠ 0) :
    Calls Try.prog 19 #[.agg #[.int .i64 p.n, .slice nA nl nc, .slice sA sl sc, .slice rA rl rc, .slice mA ml mc], .slice xA xl xc] w fun e w' => e = .returned (.tuple #[.slice none 0 0, .int .i64 c]) ∧ Below w.heap.size w w' := by
  have := reduct_err p nA nl nc sA sl sc rA rl rc mA ml mc xA xl xc m w hp hm (by rw [h]; exact hc)
  rw [h] at this
  exact this

set_option maxRecDepth 100000 in
set_option maxHeartbeats 4000000 in
theorem reductWrong_any (p : GProg) (nA : Option Addr) (nl nc : Nat) (sA : Option Addr) (sl sc : Nat) (rA : Option Addr) (rl rc : Nat) (mA : Option Addr) (ml mc : Nat) (way at_ : Int) (w : World) (hp : ProgIn w p nA nl nc sA sl sc rA rl rc mA ml mc) (hy0 : 0 ≤ way) (hy1 : way ≤ 255) (ht0 : 0 ≤ at_) (ht1 : at_ ≤ 255) :
    Calls Try.prog 5 #[.agg #[.int .i64 p.n, .slice nA nl nc, .slice sA sl sc, .slice rA rl rc, .slice mA ml mc], .int .u8 way, .int .u8 at_] w fun e w' => e = .returned (.bool true) ∧ Below w.heap.size w w' := by
  have cF := fun W (hb : Below w.heap.size w W) => few_any p nA nl nc sA sl sc rA rl rc mA ml mc W (hp.ext hb)
  have cV := fun W (hb : Below w.heap.size w W) => valid_any p nA nl nc sA sl sc rA rl rc mA ml mc W (hp.ext hb)
  have cA := awake_any
  cases hf : fewB p with
  | false =>
    rw [hf] at cF
    have HF := Lib.hid hf; clear hf
    have CF := Lib.hid cF; clear cF
    have CV := Lib.hid cV; clear cV
    have CA := Lib.hid cA; clear cA
    have HP := Lib.hid hp; clear hp
    go_enter Try.func5, Try.ntmps5
    go_wp2_with fail
    go_fit (CF.out _ (bel_alloc _ _)); rintro e w1 ⟨rfl, hb1⟩
    have HB1 := Lib.hid (bel_trans (bel_alloc _ _) hb1)
    clear hb1
    go_wp2_with fail
    go_fit (CA.out _); rintro e w2 ⟨rfl, hb2⟩
    have HB2 := Lib.hid (bel_trans HB1.out hb2)
    clear hb2
    go_wp2_with fail
    go_ret
    exact ⟨rfl, HB2.out⟩
  | true =>
    rw [hf] at cF
    by_cases hv : validE p = 0
    · have hN2 := fewB_n hf
      have hN0 := validE_n hv
      rw [hv] at cV
      by_cases hn : p.n = 0
      · have q1 : (p.n == 0) = true := by simpa using hn
        have HF := Lib.hid hf; clear hf
        have HV := Lib.hid hv; clear hv
        have CF := Lib.hid cF; clear cF
        have CV := Lib.hid cV; clear cV
        have CA := Lib.hid cA; clear cA
        have HP := Lib.hid hp; clear hp
        have HN := Lib.hid hn; clear hn
        go_enter Try.func5, Try.ntmps5
        go_wp2_with fail
        go_fit (CF.out _ (bel_alloc _ _)); rintro e w1 ⟨rfl, hb1⟩
        have hx1 := (Blk.new w 36 #[.int .i64 p.n, .slice nA nl nc, .slice sA sl sc, .slice rA rl rc, .slice mA ml mc]).bel hb1
        obtain ⟨p0, p1, p2, p3, p4, p5⟩ := pcells hx1
        have HB1 := Lib.hid (bel_trans (bel_alloc _ _) hb1)
        clear hb1
        have HX1 := Lib.hid hx1; clear hx1
        go_wp2_with fail
        go_fit (CV.out _ HB1.out); rintro e w2 ⟨rfl, hb2⟩
        have hx2 := HX1.out.bel hb2
        clear p0 p1 p2 p3 p4 p5
        obtain ⟨p0, p1, p2, p3, p4, p5⟩ := pcells hx2
        have HB2 := Lib.hid (bel_trans HB1.out hb2)
        clear hb2
        have HX2 := Lib.hid hx2; clear hx2
        go_wp2_with fail
        go_fit (CA.out _); rintro e w3 ⟨rfl, hb3⟩
        have HB3 := Lib.hid (bel_trans HB2.out hb3)
        clear hb3
        go_wp2_with fail
        go_ret
        exact ⟨rfl, HB3.out⟩
      · have q1 : (p.n == 0) = false := by simpa using hn
        have hN1 : 1 ≤ p.n := by omega
        have m0 : 0 ≤ at_ % p.n := Int.emod_nonneg _ (by omega)
        have m1 : at_ % p.n < p.n := Int.emod_lt_of_pos _ (by omega)
        have HF := Lib.hid hf; clear hf
        have HV := Lib.hid hv; clear hv
        have CF := Lib.hid cF; clear cF
        have CV := Lib.hid cV; clear cV
        have CA := Lib.hid cA; clear cA
        have HP := Lib.hid hp; clear hp
        have HN := Lib.hid hn; clear hn
        go_enter Try.func5, Try.ntmps5
        go_wp2_with fail
        go_fit (CF.out _ (bel_alloc _ _)); rintro e w1 ⟨rfl, hb1⟩
        have hx1 := (Blk.new w 36 #[.int .i64 p.n, .slice nA nl nc, .slice sA sl sc, .slice rA rl rc, .slice mA ml mc]).bel hb1
        obtain ⟨p0, p1, p2, p3, p4, p5⟩ := pcells hx1
        have HB1 := Lib.hid (bel_trans (bel_alloc _ _) hb1)
        clear hb1
        have HX1 := Lib.hid hx1; clear hx1
        go_wp2_with fail
        go_fit (CV.out _ HB1.out); rintro e w2 ⟨rfl, hb2⟩
        have hx2 := HX1.out.bel hb2
        clear p0 p1 p2 p3 p4 p5
        obtain ⟨p0, p1, p2, p3, p4, p5⟩ := pcells hx2
        have HB2 := Lib.hid (bel_trans HB1.out hb2)
        clear hb2
        have y4 : ((((w2.alloc (.cells #[.int .i64 0] 3)).alloc (.cells #[.int .i64 (-1)] 3)).alloc (.cells #[.int .i64 (p.n + 1)] 3)).alloc (.cells #[.int .i64 (1 + at_ % p.n), .int .i64 (1 + at_ % p.n)] 3)).cell? ⟨w.heap.size, 0, none⟩ = some (.int .i64 p.n) := (pcells (hx2.bel (allocs_bel ((wrO 0 (1 + at_ % p.n) p.n w2.heap.size).take 4) w2))).1
        have HX2 := Lib.hid hx2; clear hx2
        go_wp2_with fail
        change Code.wp _ _ _ _ (allocs w2 (wrO 0 (1 + at_ % p.n) p.n w2.heap.size))
        clear y4 p0 p1 p2 p3 p4 p5
        obtain ⟨A, hA⟩ : ∃ A : Option Addr, A = some ⟨w2.heap.size + 1 + 1 + 1 + 1 + 1, 0, none⟩ := ⟨_, rfl⟩
        obtain ⟨W0, hW⟩ : ∃ W : World, W = allocs w2 (wrO 0 (1 + at_ % p.n) p.n w2.heap.size) := ⟨_, rfl⟩
        have hs := wrO_sl w2 (1 + at_ % p.n) p.n (by constructor <;> omega) (by constructor <;> omega)
        have hb0 : Below w2.heap.size w2 W0 := hW ▸ allocs_bel _ _
        rw [← hA, ← hW] at hs
        rw [← hA, ← hW]
        have hx0 := HX2.out.bel hb0
        have HB0 := Lib.hid (bel_trans HB2.out hb0)
        clear hb0 hW hA
        have HS := Lib.hid hs; clear hs
        have HX0 := Lib.hid hx0; clear hx0
        go_loopw [61] (fun t wr => ∃ k : Nat, k ≤ 5 ∧ t = .int .i64 (k : Int) ∧ Below W0.heap.size W0 wr) (fun t _ => 5 - (intOf t).toNat)
        case atStart => exact ⟨0, by omega, rfl, Below.refl _ _⟩
        case round =>
          obtain ⟨k, hk, rfl, hb⟩ := hrel
          have hxr := HX0.out.bel hb
          have hpr := HP.out.ext (bel_trans HB0.out hb)
          have hsr := HS.out.ext hb
          obtain ⟨p0, p1, p2, p3, p4, p5⟩ := pcells hxr
          by_cases hlt : k < 5
          · obtain ⟨m, hm⟩ : ∃ m, (wrM p.n (1 + at_ % p.n))[k]? = some m := ⟨_, List.getElem?_eq_getElem (by simpa [wrM] using hlt)⟩
            obtain ⟨b, off, xA, xl, xc, rfl, hbl, hc, hmr⟩ := hsr.row hm
            have hbad : incB p.n m = false := wrM_bad _ _ m (List.mem_of_getElem? hm)
            have hchk : checkE p m = 2 := wr_check HV.out hbad
            have k0 : (0 : Int) ≤ (k : Int) := by omega
            have k1 : (k : Int) < 5 := by omega
            have HB := Lib.hid hb
            clear hb
            have HPR := Lib.hid hpr; clear hpr
            have HMR := Lib.hid hmr; clear hmr
            have HM := Lib.hid hm; clear hm
            have HBAD := Lib.hid hbad; clear hbad
            have HCHK := Lib.hid hchk; clear hchk
            have HXR := Lib.hid hxr; clear hxr
            have HSR := Lib.hid hsr; clear hsr
            go_wp2_with fail
            go_fit (wr_models p nA nl nc sA sl sc rA rl rc mA ml mc xA xl xc m 2 _ HPR.out HMR.out HCHK.out (by decide)); rintro e w3 ⟨rfl, hb3⟩
            have hx3 := HXR.out.bel hb3
            clear p0 p1 p2 p3 p4 p5
            obtain ⟨p0, p1, p2, p3, p4, p5⟩ := pcells hx3
            have HB3 := Lib.hid hb3
            clear hb3
            have HX3 := Lib.hid hx3; clear hx3
            go_wp2_with fail
            go_fit (wr_broken p nA nl nc sA sl sc rA rl rc mA ml mc xA xl xc m 2 _ (HPR.out.ext HB3.out) (HMR.out.ext HB3.out) HCHK.out (by decide)); rintro e w4 ⟨rfl, hb4⟩
            have hx4 := HX3.out.bel hb4
            clear p0 p1 p2 p3 p4 p5
            obtain ⟨p0, p1, p2, p3, p4, p5⟩ := pcells hx4
            have HB4 := Lib.hid (bel_trans HB3.out hb4)
            clear hb4
            have HX4 := Lib.hid hx4; clear hx4
            go_wp2_with fail
            go_fit (wr_reduct p nA nl nc sA sl sc rA rl rc mA ml mc xA xl xc m 2 _ (HPR.out.ext HB4.out) (HMR.out.ext HB4.out) HCHK.out (by decide)); rintro e w5 ⟨rfl, hb5⟩
            have hx5 := HX4.out.bel hb5
            clear p0 p1 p2 p3 p4 p5
            obtain ⟨p0, p1, p2, p3, p4, p5⟩ := pcells hx5
            have HB5 := Lib.hid (bel_trans HB4.out hb5)
            clear hb5
            have HX5 := Lib.hid hx5; clear hx5
            go_wp2_with fail
            go_fit (set_any xA xl xc m p.n _ (HMR.out.ext HB5.out)); rintro e w6 ⟨rfl, rfl⟩
            rw [HBAD.out]
            go_wp2_with fail
            go_roundw
            case rel => exact ⟨k + 1, by omega, by go_num, bel_trans HB.out HB5.out⟩
            case measure => simp [intOf]; omega
          · have HB := Lib.hid hb
            clear hb
            have HPR := Lib.hid hpr; clear hpr
            have HXR := Lib.hid hxr; clear hxr
            have HSR := Lib.hid hsr; clear hsr
            go_wp2_with fail
            have hq : ∀ o : Obj, ProgIn ((wr.alloc o).alloc (.cells #[.int .i64 (p.n + 1)] 3)) { p with shown := [p.n + 1] } nA nl nc (some ⟨wr.heap.size + 1, 0, none⟩) 1 1 rA rl rc mA ml mc := fun o => ⟨HPR.out.n, HPR.out.names.ext (bel_alloc2 _ _ _), slx (wr.alloc o) [p.n + 1] 1 _ (by simp) rfl (i64_one (by constructor <;> omega)) (by omega), HPR.out.rules.ext (bel_alloc2 _ _ _), HPR.out.min.ext (bel_alloc2 _ _ _)⟩
            go_fit (wr_models { p with shown := [p.n + 1] } _ _ _ _ _ _ _ _ _ _ _ _ none 0 0 [] 170 _ (hq _) (SlIs.nil _ _) (wr_show p) (by decide)); rintro e w3 ⟨rfl, hb3⟩
            have hy3 := ((Blk.new wr 36 #[.int .i64 p.n, .slice nA nl nc, .slice (some ⟨wr.heap.size + 1, 0, none⟩) 1 1, .slice rA rl rc, .slice mA ml mc]).alloc (.cells #[.int .i64 (p.n + 1)] 3)).bel hb3
            obtain ⟨y0, y1, y2, y3, y4, y5⟩ := pcells hy3
            have hq3 := (hq _).ext hb3
            have hb3' := bel_trans (bel_alloc2 _ _ _) hb3
            have hx3 := HXR.out.bel hb3'
            have HB3 := Lib.hid (bel_trans HB.out hb3')
            clear hb3 hb3' p0 p1 p2 p3 p4 p5 hq
            have HX3 := Lib.hid hx3; clear hx3
            have HQ3 := Lib.hid hq3; clear hq3
            generalize wr.heap.size = gy at *
            go_wp2_with fail
            go_fit (wr_reduct { p with shown := [p.n + 1] } _ _ _ _ _ _ _ _ _ _ _ _ none 0 0 [] 170 _ HQ3.out (SlIs.nil _ _) (wr_show p) (by decide)); rintro e w4 ⟨rfl, hb4⟩
            have hx4 := HX3.out.bel hb4
            obtain ⟨p0, p1, p2, p3, p4, p5⟩ := pcells hx4
            have HB4 := Lib.hid (bel_trans HB3.out hb4)
            clear hb4 y0 y1 y2 y3 y4 y5
            generalize ha : 1 + at_ % p.n = a at *
            have a1 : 1 ≤ a := by omega
            have a2 : a ≤ p.n := by omega
            have z4 : ((((w4.alloc (.cells #[.int .i64 a, .int .i64 (p.n + 1)] 3)).alloc (.cells #[.int .i64 a] 3)).alloc (.cells #[.int .i64 a] 3)).alloc (.cells #[.int .i64 (-a)] 3)).cell? ⟨w.heap.size, 0, none⟩ = some (.int .i64 p.n) := (pcells (hx4.bel (allocs_bel ((wrL a p.n w4.heap.size 0).take 4) w4))).1
            clear ha
            have h7 : way % 7 = 0 ∨ way % 7 = 1 ∨ way % 7 = 2 ∨ way % 7 = 3 ∨ way % 7 = 4 ∨ way % 7 = 5 ∨ way % 7 = 6 := by omega
            have HX4 := Lib.hid hx4; clear hx4
            rcases h7 with h7 | h7 | h7 | h7 | h7 | h7 | h7
            · have z10 : (allocs w4 ((wrL a p.n w4.heap.size 0).take 10)).cell? ⟨w.heap.size, 0, none⟩ = some (.int .i64 p.n) := (pcells (HX4.out.bel (allocs_bel ((wrL a p.n w4.heap.size 0).take 10) w4))).1
              simp only [wrL, List.take, allocs, wrT, wrV] at z10
              have hix := wr_ix0
              go_wp2_with fail
              change Calls _ _ _ (allocs w4 (wrL a p.n w4.heap.size 0)) _
              clear z4 z10 p0 p1 p2 p3 p4 p5
              go_fit (least_not _ 2 2 [wrR0 a, wrB p.n a 0] p.n _ (wr_two w4 a p.n a1 a2 hN2 0 (by omega)) (wr_def p.n a a1 a2 0)); rintro e w5 ⟨rfl, hb5⟩
              have hx5 := HX4.out.bel (bel_trans (allocs_bel _ _) hb5)
              have hr5 : Blk w5 (w4.heap.size + 1 + 1 + 1 + 1 + 1 + 1 + 1 + 1 + 1) 26 (wrV (wrT w4.heap.size 0)) := (allocs_blk (os := wrL a p.n w4.heap.size 0) 9 rfl).bel hb5
              simp only [wrV, wrT] at hr5
              obtain ⟨r0, r1, r2, r3, r4, r5, r6⟩ := rcells hr5
              obtain ⟨p0, p1, p2, p3, p4, p5⟩ := pcells hx5
              have HBL := Lib.hid hb5
              have HB5 := Lib.hid (bel_trans HB4.out (bel_trans (allocs_bel _ _) hb5))
              clear hb5
              have HR5 := Lib.hid hr5; clear hr5
              have HX5 := Lib.hid hx5; clear hx5
              go_wp2_with fail
              change Calls _ _ _ (allocs w5 (wrL2 a w4.heap.size 0 w5.heap.size)) _
              go_fit (rounds_not _ 2 2 [wrR0 a, wrB p.n a 0] p.n _ (wr_two2 w4 w5 a p.n a1 a2 hN2 0 (by omega) HBL.out) (wr_def p.n a a1 a2 0)); rintro e w6 ⟨rfl, hb6⟩
              have HB6 := Lib.hid (bel_trans HB5.out (bel_trans (allocs_bel _ _) hb6))
              clear hb6 r0 r1 r2 r3 r4 r5 r6 p0 p1 p2 p3 p4 p5
              go_wp2_with fail
              go_fit (CA.out _); rintro e w7 ⟨rfl, hb7⟩
              have HB7 := Lib.hid (bel_trans HB6.out hb7)
              clear hb7
              go_wp2_with fail
              go_ret
              exact ⟨rfl, bel_trans HB0.out HB7.out⟩
            · have z10 : (allocs w4 ((wrL a p.n w4.heap.size 1).take 10)).cell? ⟨w.heap.size, 0, none⟩ = some (.int .i64 p.n) := (pcells (HX4.out.bel (allocs_bel ((wrL a p.n w4.heap.size 1).take 10) w4))).1
              simp only [wrL, List.take, allocs, wrT, wrV] at z10
              have hix := wr_ix1
              go_wp2_with fail
              change Calls _ _ _ (allocs w4 (wrL a p.n w4.heap.size 1)) _
              clear z4 z10 p0 p1 p2 p3 p4 p5
              go_fit (least_not _ 2 2 [wrR0 a, wrB p.n a 1] p.n _ (wr_two w4 a p.n a1 a2 hN2 1 (by omega)) (wr_def p.n a a1 a2 1)); rintro e w5 ⟨rfl, hb5⟩
              have hx5 := HX4.out.bel (bel_trans (allocs_bel _ _) hb5)
              have hr5 : Blk w5 (w4.heap.size + 1 + 1 + 1 + 1 + 1 + 1 + 1 + 1 + 1) 26 (wrV (wrT w4.heap.size 1)) := (allocs_blk (os := wrL a p.n w4.heap.size 1) 9 rfl).bel hb5
              simp only [wrV, wrT] at hr5
              obtain ⟨r0, r1, r2, r3, r4, r5, r6⟩ := rcells hr5
              obtain ⟨p0, p1, p2, p3, p4, p5⟩ := pcells hx5
              have HBL := Lib.hid hb5
              have HB5 := Lib.hid (bel_trans HB4.out (bel_trans (allocs_bel _ _) hb5))
              clear hb5
              have HR5 := Lib.hid hr5; clear hr5
              have HX5 := Lib.hid hx5; clear hx5
              go_wp2_with fail
              change Calls _ _ _ (allocs w5 (wrL2 a w4.heap.size 1 w5.heap.size)) _
              go_fit (rounds_not _ 2 2 [wrR0 a, wrB p.n a 1] p.n _ (wr_two2 w4 w5 a p.n a1 a2 hN2 1 (by omega) HBL.out) (wr_def p.n a a1 a2 1)); rintro e w6 ⟨rfl, hb6⟩
              have HB6 := Lib.hid (bel_trans HB5.out (bel_trans (allocs_bel _ _) hb6))
              clear hb6 r0 r1 r2 r3 r4 r5 r6 p0 p1 p2 p3 p4 p5
              go_wp2_with fail
              go_fit (CA.out _); rintro e w7 ⟨rfl, hb7⟩
              have HB7 := Lib.hid (bel_trans HB6.out hb7)
              clear hb7
              go_wp2_with fail
              go_ret
              exact ⟨rfl, bel_trans HB0.out HB7.out⟩
            · have z10 : (allocs w4 ((wrL a p.n w4.heap.size 2).take 10)).cell? ⟨w.heap.size, 0, none⟩ = some (.int .i64 p.n) := (pcells (HX4.out.bel (allocs_bel ((wrL a p.n w4.heap.size 2).take 10) w4))).1
              simp only [wrL, List.take, allocs, wrT, wrV] at z10
              have hix := wr_ix2
              go_wp2_with fail
              change Calls _ _ _ (allocs w4 (wrL a p.n w4.heap.size 2)) _
              clear z4 z10 p0 p1 p2 p3 p4 p5
              go_fit (least_not _ 2 2 [wrR0 a, wrB p.n a 2] p.n _ (wr_two w4 a p.n a1 a2 hN2 2 (by omega)) (wr_def p.n a a1 a2 2)); rintro e w5 ⟨rfl, hb5⟩
              have hx5 := HX4.out.bel (bel_trans (allocs_bel _ _) hb5)
              have hr5 : Blk w5 (w4.heap.size + 1 + 1 + 1 + 1 + 1 + 1 + 1 + 1 + 1) 26 (wrV (wrT w4.heap.size 2)) := (allocs_blk (os := wrL a p.n w4.heap.size 2) 9 rfl).bel hb5
              simp only [wrV, wrT] at hr5
              obtain ⟨r0, r1, r2, r3, r4, r5, r6⟩ := rcells hr5
              obtain ⟨p0, p1, p2, p3, p4, p5⟩ := pcells hx5
              have HBL := Lib.hid hb5
              have HB5 := Lib.hid (bel_trans HB4.out (bel_trans (allocs_bel _ _) hb5))
              clear hb5
              have HR5 := Lib.hid hr5; clear hr5
              have HX5 := Lib.hid hx5; clear hx5
              go_wp2_with fail
              change Calls _ _ _ (allocs w5 (wrL2 a w4.heap.size 2 w5.heap.size)) _
              go_fit (rounds_not _ 2 2 [wrR0 a, wrB p.n a 2] p.n _ (wr_two2 w4 w5 a p.n a1 a2 hN2 2 (by omega) HBL.out) (wr_def p.n a a1 a2 2)); rintro e w6 ⟨rfl, hb6⟩
              have HB6 := Lib.hid (bel_trans HB5.out (bel_trans (allocs_bel _ _) hb6))
              clear hb6 r0 r1 r2 r3 r4 r5 r6 p0 p1 p2 p3 p4 p5
              go_wp2_with fail
              go_fit (CA.out _); rintro e w7 ⟨rfl, hb7⟩
              have HB7 := Lib.hid (bel_trans HB6.out hb7)
              clear hb7
              go_wp2_with fail
              go_ret
              exact ⟨rfl, bel_trans HB0.out HB7.out⟩
            · have z10 : (allocs w4 ((wrL a p.n w4.heap.size 3).take 10)).cell? ⟨w.heap.size, 0, none⟩ = some (.int .i64 p.n) := (pcells (HX4.out.bel (allocs_bel ((wrL a p.n w4.heap.size 3).take 10) w4))).1
              simp only [wrL, List.take, allocs, wrT, wrV] at z10
              have hix := wr_ix3
              go_wp2_with fail
              change Calls _ _ _ (allocs w4 (wrL a p.n w4.heap.size 3)) _
              clear z4 z10 p0 p1 p2 p3 p4 p5
              go_fit (least_not _ 2 2 [wrR0 a, wrB p.n a 3] p.n _ (wr_two w4 a p.n a1 a2 hN2 3 (by omega)) (wr_def p.n a a1 a2 3)); rintro e w5 ⟨rfl, hb5⟩
              have hx5 := HX4.out.bel (bel_trans (allocs_bel _ _) hb5)
              have hr5 : Blk w5 (w4.heap.size + 1 + 1 + 1 + 1 + 1 + 1 + 1 + 1 + 1) 26 (wrV (wrT w4.heap.size 3)) := (allocs_blk (os := wrL a p.n w4.heap.size 3) 9 rfl).bel hb5
              simp only [wrV, wrT] at hr5
              obtain ⟨r0, r1, r2, r3, r4, r5, r6⟩ := rcells hr5
              obtain ⟨p0, p1, p2, p3, p4, p5⟩ := pcells hx5
              have HBL := Lib.hid hb5
              have HB5 := Lib.hid (bel_trans HB4.out (bel_trans (allocs_bel _ _) hb5))
              clear hb5
              have HR5 := Lib.hid hr5; clear hr5
              have HX5 := Lib.hid hx5; clear hx5
              go_wp2_with fail
              change Calls _ _ _ (allocs w5 (wrL2 a w4.heap.size 3 w5.heap.size)) _
              go_fit (rounds_not _ 2 2 [wrR0 a, wrB p.n a 3] p.n _ (wr_two2 w4 w5 a p.n a1 a2 hN2 3 (by omega) HBL.out) (wr_def p.n a a1 a2 3)); rintro e w6 ⟨rfl, hb6⟩
              have HB6 := Lib.hid (bel_trans HB5.out (bel_trans (allocs_bel _ _) hb6))
              clear hb6 r0 r1 r2 r3 r4 r5 r6 p0 p1 p2 p3 p4 p5
              go_wp2_with fail
              go_fit (CA.out _); rintro e w7 ⟨rfl, hb7⟩
              have HB7 := Lib.hid (bel_trans HB6.out hb7)
              clear hb7
              go_wp2_with fail
              go_ret
              exact ⟨rfl, bel_trans HB0.out HB7.out⟩
            · have z10 : (allocs w4 ((wrL a p.n w4.heap.size 4).take 10)).cell? ⟨w.heap.size, 0, none⟩ = some (.int .i64 p.n) := (pcells (HX4.out.bel (allocs_bel ((wrL a p.n w4.heap.size 4).take 10) w4))).1
              simp only [wrL, List.take, allocs, wrT, wrV] at z10
              have hix := wr_ix4
              go_wp2_with fail
              change Calls _ _ _ (allocs w4 (wrL a p.n w4.heap.size 4)) _
              clear z4 z10 p0 p1 p2 p3 p4 p5
              go_fit (least_not _ 2 2 [wrR0 a, wrB p.n a 4] p.n _ (wr_two w4 a p.n a1 a2 hN2 4 (by omega)) (wr_def p.n a a1 a2 4)); rintro e w5 ⟨rfl, hb5⟩
              have hx5 := HX4.out.bel (bel_trans (allocs_bel _ _) hb5)
              have hr5 : Blk w5 (w4.heap.size + 1 + 1 + 1 + 1 + 1 + 1 + 1 + 1 + 1) 26 (wrV (wrT w4.heap.size 4)) := (allocs_blk (os := wrL a p.n w4.heap.size 4) 9 rfl).bel hb5
              simp only [wrV, wrT] at hr5
              obtain ⟨r0, r1, r2, r3, r4, r5, r6⟩ := rcells hr5
              obtain ⟨p0, p1, p2, p3, p4, p5⟩ := pcells hx5
              have HBL := Lib.hid hb5
              have HB5 := Lib.hid (bel_trans HB4.out (bel_trans (allocs_bel _ _) hb5))
              clear hb5
              have HR5 := Lib.hid hr5; clear hr5
              have HX5 := Lib.hid hx5; clear hx5
              go_wp2_with fail
              change Calls _ _ _ (allocs w5 (wrL2 a w4.heap.size 4 w5.heap.size)) _
              go_fit (rounds_not _ 2 2 [wrR0 a, wrB p.n a 4] p.n _ (wr_two2 w4 w5 a p.n a1 a2 hN2 4 (by omega) HBL.out) (wr_def p.n a a1 a2 4)); rintro e w6 ⟨rfl, hb6⟩
              have HB6 := Lib.hid (bel_trans HB5.out (bel_trans (allocs_bel _ _) hb6))
              clear hb6 r0 r1 r2 r3 r4 r5 r6 p0 p1 p2 p3 p4 p5
              go_wp2_with fail
              go_fit (CA.out _); rintro e w7 ⟨rfl, hb7⟩
              have HB7 := Lib.hid (bel_trans HB6.out hb7)
              clear hb7
              go_wp2_with fail
              go_ret
              exact ⟨rfl, bel_trans HB0.out HB7.out⟩
            · have z10 : (allocs w4 ((wrL a p.n w4.heap.size 5).take 10)).cell? ⟨w.heap.size, 0, none⟩ = some (.int .i64 p.n) := (pcells (HX4.out.bel (allocs_bel ((wrL a p.n w4.heap.size 5).take 10) w4))).1
              simp only [wrL, List.take, allocs, wrT, wrV] at z10
              have hix := wr_ix5
              go_wp2_with fail
              change Calls _ _ _ (allocs w4 (wrL a p.n w4.heap.size 5)) _
              clear z4 z10 p0 p1 p2 p3 p4 p5
              go_fit (least_not _ 2 2 [wrR0 a, wrB p.n a 5] p.n _ (wr_two w4 a p.n a1 a2 hN2 5 (by omega)) (wr_def p.n a a1 a2 5)); rintro e w5 ⟨rfl, hb5⟩
              have hx5 := HX4.out.bel (bel_trans (allocs_bel _ _) hb5)
              have hr5 : Blk w5 (w4.heap.size + 1 + 1 + 1 + 1 + 1 + 1 + 1 + 1 + 1) 26 (wrV (wrT w4.heap.size 5)) := (allocs_blk (os := wrL a p.n w4.heap.size 5) 9 rfl).bel hb5
              simp only [wrV, wrT] at hr5
              obtain ⟨r0, r1, r2, r3, r4, r5, r6⟩ := rcells hr5
              obtain ⟨p0, p1, p2, p3, p4, p5⟩ := pcells hx5
              have HBL := Lib.hid hb5
              have HB5 := Lib.hid (bel_trans HB4.out (bel_trans (allocs_bel _ _) hb5))
              clear hb5
              have HR5 := Lib.hid hr5; clear hr5
              have HX5 := Lib.hid hx5; clear hx5
              go_wp2_with fail
              change Calls _ _ _ (allocs w5 (wrL2 a w4.heap.size 5 w5.heap.size)) _
              go_fit (rounds_not _ 2 2 [wrR0 a, wrB p.n a 5] p.n _ (wr_two2 w4 w5 a p.n a1 a2 hN2 5 (by omega) HBL.out) (wr_def p.n a a1 a2 5)); rintro e w6 ⟨rfl, hb6⟩
              have HB6 := Lib.hid (bel_trans HB5.out (bel_trans (allocs_bel _ _) hb6))
              clear hb6 r0 r1 r2 r3 r4 r5 r6 p0 p1 p2 p3 p4 p5
              go_wp2_with fail
              go_fit (CA.out _); rintro e w7 ⟨rfl, hb7⟩
              have HB7 := Lib.hid (bel_trans HB6.out hb7)
              clear hb7
              go_wp2_with fail
              go_ret
              exact ⟨rfl, bel_trans HB0.out HB7.out⟩
            · have z10 : (allocs w4 ((wrL a p.n w4.heap.size 6).take 10)).cell? ⟨w.heap.size, 0, none⟩ = some (.int .i64 p.n) := (pcells (HX4.out.bel (allocs_bel ((wrL a p.n w4.heap.size 6).take 10) w4))).1
              simp only [wrL, List.take, allocs, wrT, wrV] at z10
              have hix := wr_ix6
              go_wp2_with fail
              change Calls _ _ _ (allocs w4 (wrL a p.n w4.heap.size 6)) _
              clear z4 z10 p0 p1 p2 p3 p4 p5
              go_fit (least_not _ 2 2 [wrR0 a, wrB p.n a 6] p.n _ (wr_two w4 a p.n a1 a2 hN2 6 (by omega)) (wr_def p.n a a1 a2 6)); rintro e w5 ⟨rfl, hb5⟩
              have hx5 := HX4.out.bel (bel_trans (allocs_bel _ _) hb5)
              have hr5 : Blk w5 (w4.heap.size + 1 + 1 + 1 + 1 + 1 + 1 + 1 + 1 + 1) 26 (wrV (wrT w4.heap.size 6)) := (allocs_blk (os := wrL a p.n w4.heap.size 6) 9 rfl).bel hb5
              simp only [wrV, wrT] at hr5
              obtain ⟨r0, r1, r2, r3, r4, r5, r6⟩ := rcells hr5
              obtain ⟨p0, p1, p2, p3, p4, p5⟩ := pcells hx5
              have HBL := Lib.hid hb5
              have HB5 := Lib.hid (bel_trans HB4.out (bel_trans (allocs_bel _ _) hb5))
              clear hb5
              have HR5 := Lib.hid hr5; clear hr5
              have HX5 := Lib.hid hx5; clear hx5
              go_wp2_with fail
              change Calls _ _ _ (allocs w5 (wrL2 a w4.heap.size 6 w5.heap.size)) _
              go_fit (rounds_not _ 2 2 [wrR0 a, wrB p.n a 6] p.n _ (wr_two2 w4 w5 a p.n a1 a2 hN2 6 (by omega) HBL.out) (wr_def p.n a a1 a2 6)); rintro e w6 ⟨rfl, hb6⟩
              have HB6 := Lib.hid (bel_trans HB5.out (bel_trans (allocs_bel _ _) hb6))
              clear hb6 r0 r1 r2 r3 r4 r5 r6 p0 p1 p2 p3 p4 p5
              go_wp2_with fail
              go_fit (CA.out _); rintro e w7 ⟨rfl, hb7⟩
              have HB7 := Lib.hid (bel_trans HB6.out hb7)
              clear hb7
              go_wp2_with fail
              go_ret
              exact ⟨rfl, bel_trans HB0.out HB7.out⟩
    · generalize validE p = v at *
      have q1 : (v != 0) = true := by simpa using hv
      have HF := Lib.hid hf; clear hf
      have HV := Lib.hid hv; clear hv
      have CF := Lib.hid cF; clear cF
      have CV := Lib.hid cV; clear cV
      have CA := Lib.hid cA; clear cA
      have HP := Lib.hid hp; clear hp
      go_enter Try.func5, Try.ntmps5
      go_wp2_with fail
      go_fit (CF.out _ (bel_alloc _ _)); rintro e w1 ⟨rfl, hb1⟩
      have hx1 := (Blk.new w 36 #[.int .i64 p.n, .slice nA nl nc, .slice sA sl sc, .slice rA rl rc, .slice mA ml mc]).bel hb1
      obtain ⟨p0, p1, p2, p3, p4, p5⟩ := pcells hx1
      have HB1 := Lib.hid (bel_trans (bel_alloc _ _) hb1)
      clear hb1
      have HX1 := Lib.hid hx1; clear hx1
      go_wp2_with fail
      go_fit (CV.out _ HB1.out); rintro e w2 ⟨rfl, hb2⟩
      have HB2 := Lib.hid (bel_trans HB1.out hb2)
      clear hb2
      go_wp2_with fail
      go_fit (CA.out _); rintro e w3 ⟨rfl, hb3⟩
      have HB3 := Lib.hid (bel_trans HB2.out hb3)
      clear hb3
      go_wp2_with fail
      go_ret
      exact ⟨rfl, HB3.out⟩
end Go.Proofs.Ytcbkkjcleiibfaa

/- The law StableTells: it answers true and changes nothing that was there. -/
import Derived.Test.YtamdammaeaeilaaGreatSl3
import Derived.Test.YtamdammaeaeilaaGreatGA
import Derived.Test.YtamdammaeaeilaaGreatG8
import Derived.Test.YtamdammaeaeilaaGreatG7
namespace Go.Proofs.YtamdammaeaeilaaGreat
open Go.RowKit

set_option maxRecDepth 100000 in
set_option maxHeartbeats 4000000 in
theorem stableTells_law (p : GProg) (nA : Option Addr) (nl nc : Nat) (sA : Option Addr) (sl sc : Nat) (rA : Option Addr) (rl rc : Nat) (mA : Option Addr) (ml mc : Nat) (xA : Option Addr) (xl xc : Nat) (m : List Int) (w : World) (hp : ProgIn w p nA nl nc sA sl sc rA rl rc mA ml mc) (hm : SlIs intR w xA xl xc m) :
    Calls Tryz.prog 3 #[.agg #[.int .i64 p.n, .slice nA nl nc, .slice sA sl sc, .slice rA rl rc, .slice mA ml mc], .slice xA xl xc] w fun e w' => e = .returned (.bool true) ∧ Below w.heap.size w w' := by
  have cF := fun W (hb : Below w.heap.size w W) => few_any p nA nl nc sA sl sc rA rl rc mA ml mc W (hp.ext hb)
  have cA := awake20_any
  have hxc := hm.cap
  have hxm := hm.max
  have hx0 := Blk.new w 27 #[.int .i64 p.n, .slice nA nl nc, .slice sA sl sc, .slice rA rl rc, .slice mA ml mc]
  cases hq : fewB p with
  | false =>
    rw [hq] at cF
    have HP := Lib.hid hp; clear hp
    have HM := Lib.hid hm; clear hm
    have CF := Lib.hid cF; clear cF
    have CA := Lib.hid cA; clear cA
    have HX0 := Lib.hid hx0; clear hx0
    have HQ := Lib.hid hq; clear hq
    go_enter Tryz.func3, Tryz.ntmps3
    go_wp2_with fail
    go_fit (CF.out _ (bel_alloc _ _)); rintro e w1 ⟨rfl, hb1⟩
    have HBW := Lib.hid (bel_trans (bel_alloc _ _) hb1)
    have HX := Lib.hid (HX0.out.bel hb1)
    clear hb1
    obtain ⟨p0, p1, p2, p3, p4, p5⟩ := pcells HX.out
    go_wp2_with fail
    go_fit (CA.out _); rintro e wz ⟨rfl, hbz⟩
    replace HBW := Lib.hid (bel_trans HBW.out hbz)
    go_wp2_with fail
    go_ret
    exact ⟨rfl, HBW.out⟩
  | true =>
    rw [hq] at cF
    by_cases hn6 : 6 < p.n
    · have HP := Lib.hid hp; clear hp
      have HM := Lib.hid hm; clear hm
      have CF := Lib.hid cF; clear cF
      have CA := Lib.hid cA; clear cA
      have HX0 := Lib.hid hx0; clear hx0
      have HQ := Lib.hid hq; clear hq
      go_enter Tryz.func3, Tryz.ntmps3
      go_wp2_with fail
      go_fit (CF.out _ (bel_alloc _ _)); rintro e w1 ⟨rfl, hb1⟩
      have HBW := Lib.hid (bel_trans (bel_alloc _ _) hb1)
      have HX := Lib.hid (HX0.out.bel hb1)
      clear hb1
      obtain ⟨p0, p1, p2, p3, p4, p5⟩ := pcells HX.out
      go_wp2_with fail
      go_fit (CA.out _); rintro e wz ⟨rfl, hbz⟩
      replace HBW := Lib.hid (bel_trans HBW.out hbz)
      go_wp2_with fail
      go_ret
      exact ⟨rfl, HBW.out⟩
    · by_cases hl8 : 8 < xl
      · have q1 : (8 : Int) < (xl : Int) := by omega
        have HP := Lib.hid hp; clear hp
        have HM := Lib.hid hm; clear hm
        have CF := Lib.hid cF; clear cF
        have CA := Lib.hid cA; clear cA
        have HX0 := Lib.hid hx0; clear hx0
        have HQ := Lib.hid hq; clear hq
        have HL8 := Lib.hid hl8; clear hl8
        go_enter Tryz.func3, Tryz.ntmps3
        go_wp2_with fail
        go_fit (CF.out _ (bel_alloc _ _)); rintro e w1 ⟨rfl, hb1⟩
        have HBW := Lib.hid (bel_trans (bel_alloc _ _) hb1)
        have HX := Lib.hid (HX0.out.bel hb1)
        clear hb1
        obtain ⟨p0, p1, p2, p3, p4, p5⟩ := pcells HX.out
        go_wp2_with fail
        go_fit (CA.out _); rintro e wz ⟨rfl, hbz⟩
        replace HBW := Lib.hid (bel_trans HBW.out hbz)
        go_wp2_with fail
        go_ret
        exact ⟨rfl, HBW.out⟩
      · have q1 : ¬ (8 : Int) < (xl : Int) := by omega
        have cV := fun W (hb : Below w.heap.size w W) => refValid_any p nA nl nc sA sl sc rA rl rc mA ml mc W (hp.ext hb)
        by_cases hv : validE p = 0
        · have hsm : SmallP p := ⟨validE_is hv, valid_n hv, by omega, by have := (few_head hq).1; omega⟩
          have cAll := fun W (hb : Below w.heap.size w W) => all_any p nA nl nc sA sl sc rA rl rc mA ml mc W (hp.ext hb) hv hsm
          have cBest := fun W (hb : Below w.heap.size w W) => stableBest_any p nA nl nc sA sl sc rA rl rc mA ml mc W (hp.ext hb) hv hsm
          have cRA := fun W (hb : Below w.heap.size w W) => refAllP_any p nA nl nc sA sl sc rA rl rc mA ml mc W (hp.ext hb) hsm
          have cRB := fun W (hb : Below w.heap.size w W) => refBest_any p nA nl nc sA sl sc rA rl rc mA ml mc W (hp.ext hb) hv hsm
          have cC := fun W (hb : Below w.heap.size w W) => stableCosts_any p nA nl nc sA sl sc rA rl rc mA ml mc xA xl xc m W (hp.ext hb) (hm.ext hb)
          have cS := fun W (hb : Below w.heap.size w W) => refSet_any xA xl xc m p.n W (hm.ext hb)
          rw [hv] at cV
          cases hi : incB p.n m with
          | false =>
            have hce : checkE p m = 2 := by unfold checkE; rw [if_neg (by simp [hv]), if_pos hi]
            have hco : costsE p m = [] := by unfold costsE; rw [hce]; rfl
            have cI := fun W (hb : Below w.heap.size w W) => stableIs_err p nA nl nc sA sl sc rA rl rc mA ml mc xA xl xc m W (hp.ext hb) (hm.ext hb) (by rw [hce]; decide)
            rw [hce] at cI
            simp only [hce, hco] at cC
            rw [hi] at cS
            have HP := Lib.hid hp; clear hp
            have HM := Lib.hid hm; clear hm
            have CF := Lib.hid cF; clear cF
            have CA := Lib.hid cA; clear cA
            have HX0 := Lib.hid hx0; clear hx0
            have HQ := Lib.hid hq; clear hq
            have HV := Lib.hid hv; clear hv
            have CV := Lib.hid cV; clear cV
            have HSM := Lib.hid hsm; clear hsm
            have CALL := Lib.hid cAll; clear cAll
            have CBEST := Lib.hid cBest; clear cBest
            have CRA := Lib.hid cRA; clear cRA
            have CRB := Lib.hid cRB; clear cRB
            have CC := Lib.hid cC; clear cC
            have CS := Lib.hid cS; clear cS
            have HI := Lib.hid hi; clear hi
            have HCE := Lib.hid hce; clear hce
            have HCO := Lib.hid hco; clear hco
            have CI := Lib.hid cI; clear cI
            go_enter Tryz.func3, Tryz.ntmps3
            go_wp2_with fail
            go_fit (CF.out _ (bel_alloc _ _)); rintro e w1 ⟨rfl, hb1⟩
            have HBW := Lib.hid (bel_trans (bel_alloc _ _) hb1)
            have HX := Lib.hid (HX0.out.bel hb1)
            clear hb1
            obtain ⟨p0, p1, p2, p3, p4, p5⟩ := pcells HX.out
            go_wp2_with fail
            go_fit (CV.out _ HBW.out); rintro e w2 ⟨rfl, hb2⟩
            replace HX := Lib.hid (HX.out.bel hb2)
            replace HBW := Lib.hid (bel_trans HBW.out hb2)
            clear p0 p1 p2 p3 p4 p5
            obtain ⟨p0, p1, p2, p3, p4, p5⟩ := pcells HX.out
            go_wp2_with fail
            go_fit (CALL.out _ HBW.out); rintro e w3 ⟨lA, ll, lc, rfl, hs1, hb3⟩
            replace HX := Lib.hid (HX.out.bel hb3)
            replace HBW := Lib.hid (bel_trans HBW.out hb3)
            clear p0 p1 p2 p3 p4 p5
            obtain ⟨p0, p1, p2, p3, p4, p5⟩ := pcells HX.out
            have HS1 := Lib.hid hs1; clear hs1
            go_wp2_with fail
            go_fit (CBEST.out _ HBW.out); rintro e w4 ⟨bA, bl, bc, cA', cl, cc, rfl, hs2, hs3, hb4⟩
            replace HX := Lib.hid (HX.out.bel hb4)
            replace HBW := Lib.hid (bel_trans HBW.out hb4)
            replace HS1 := Lib.hid (HS1.out.ext hb4)
            clear p0 p1 p2 p3 p4 p5
            obtain ⟨p0, p1, p2, p3, p4, p5⟩ := pcells HX.out
            have HS2 := Lib.hid hs2; clear hs2
            have HS3 := Lib.hid hs3; clear hs3
            go_wp2_with fail
            go_fit (CI.out _ HBW.out); rintro e w5 ⟨rfl, hb5⟩
            replace HX := Lib.hid (HX.out.bel hb5)
            replace HBW := Lib.hid (bel_trans HBW.out hb5)
            replace HS1 := Lib.hid (HS1.out.ext hb5)
            replace HS2 := Lib.hid (HS2.out.ext hb5)
            replace HS3 := Lib.hid (HS3.out.ext hb5)
            clear p0 p1 p2 p3 p4 p5
            obtain ⟨p0, p1, p2, p3, p4, p5⟩ := pcells HX.out
            go_wp2_with fail
            go_fit (CC.out _ HBW.out); rintro e w6 ⟨yA, yl, yc, rfl, hs4, hb6⟩
            replace HX := Lib.hid (HX.out.bel hb6)
            replace HBW := Lib.hid (bel_trans HBW.out hb6)
            replace HS1 := Lib.hid (HS1.out.ext hb6)
            replace HS2 := Lib.hid (HS2.out.ext hb6)
            replace HS3 := Lib.hid (HS3.out.ext hb6)
            clear p0 p1 p2 p3 p4 p5
            obtain ⟨p0, p1, p2, p3, p4, p5⟩ := pcells HX.out
            have hy0 : yl = 0 := hs4.len
            subst hy0
            have HS4 := Lib.hid hs4; clear hs4
            go_wp2_with fail
            go_fit (CRA.out _ HBW.out); rintro e w7 ⟨zA, zl, zc, rfl, hs5, hb7⟩
            replace HX := Lib.hid (HX.out.bel hb7)
            replace HBW := Lib.hid (bel_trans HBW.out hb7)
            replace HS1 := Lib.hid (HS1.out.ext hb7)
            replace HS2 := Lib.hid (HS2.out.ext hb7)
            replace HS3 := Lib.hid (HS3.out.ext hb7)
            clear p0 p1 p2 p3 p4 p5
            obtain ⟨p0, p1, p2, p3, p4, p5⟩ := pcells HX.out
            have cL := lists_any lA ll lc zA zl zc _ _ w7 HS1.out hs5
            rw [decide_eq_true rfl] at cL
            have HS5 := Lib.hid hs5; clear hs5
            have CL := Lib.hid cL; clear cL
            go_wp2_with fail
            go_fit CL.out; rintro e w8 ⟨rfl, hb8⟩
            replace HX := Lib.hid (HX.out.bel hb8)
            replace HBW := Lib.hid (bel_trans HBW.out hb8)
            clear p0 p1 p2 p3 p4 p5
            obtain ⟨p0, p1, p2, p3, p4, p5⟩ := pcells HX.out
            go_wp2_with fail
            go_fit (CS.out _ HBW.out); rintro e w9 ⟨rfl, hb9⟩
            replace HX := Lib.hid (HX.out.bel hb9)
            replace HBW := Lib.hid (bel_trans HBW.out hb9)
            clear p0 p1 p2 p3 p4 p5
            obtain ⟨p0, p1, p2, p3, p4, p5⟩ := pcells HX.out
            go_wp2_with fail
            go_fit (CA.out _); rintro e wz ⟨rfl, hbz⟩
            replace HBW := Lib.hid (bel_trans HBW.out hbz)
            go_wp2_with fail
            go_ret
            exact ⟨rfl, HBW.out⟩
          | true =>
            have hce : checkE p m = 0 := check_of hv hi
            have hco : costsE p m = costL p m := by unfold costsE; rw [hce]; rfl
            have cI := fun W (hb : Below w.heap.size w W) => stableIs_any p nA nl nc sA sl sc rA rl rc mA ml mc xA xl xc m W (hp.ext hb) (hm.ext hb) hce (by omega) (hsm.red m) hsm.n0
            rw [isC_is hsm.is] at cI
            have cRI := fun W (hb : Below w.heap.size w W) => refIs_any p nA nl nc sA sl sc rA rl rc mA ml mc xA xl xc m W (hp.ext hb) (hm.ext hb) hsm.is (Nat.le_trans hsm.few (by omega)) hsm.n0 hi (by omega)
            have cRC := fun W (hb : Below w.heap.size w W) => refCosts_any p nA nl nc sA sl sc rA rl rc mA ml mc xA xl xc m W (hp.ext hb) (hm.ext hb) (valid_lev hv)
            simp only [hce, hco] at cC
            rw [hi] at cS
            generalize isL p m = is at *
            have his : (is == is) = true := by simp
            have HP := Lib.hid hp; clear hp
            have HM := Lib.hid hm; clear hm
            have CF := Lib.hid cF; clear cF
            have CA := Lib.hid cA; clear cA
            have HX0 := Lib.hid hx0; clear hx0
            have HQ := Lib.hid hq; clear hq
            have HV := Lib.hid hv; clear hv
            have CV := Lib.hid cV; clear cV
            have HSM := Lib.hid hsm; clear hsm
            have CALL := Lib.hid cAll; clear cAll
            have CBEST := Lib.hid cBest; clear cBest
            have CRA := Lib.hid cRA; clear cRA
            have CRB := Lib.hid cRB; clear cRB
            have CC := Lib.hid cC; clear cC
            have CS := Lib.hid cS; clear cS
            have HI := Lib.hid hi; clear hi
            have HCE := Lib.hid hce; clear hce
            have HCO := Lib.hid hco; clear hco
            have CI := Lib.hid cI; clear cI
            have CRI := Lib.hid cRI; clear cRI
            have CRC := Lib.hid cRC; clear cRC
            go_enter Tryz.func3, Tryz.ntmps3
            go_wp2_with fail
            go_fit (CF.out _ (bel_alloc _ _)); rintro e w1 ⟨rfl, hb1⟩
            have HBW := Lib.hid (bel_trans (bel_alloc _ _) hb1)
            have HX := Lib.hid (HX0.out.bel hb1)
            clear hb1
            obtain ⟨p0, p1, p2, p3, p4, p5⟩ := pcells HX.out
            go_wp2_with fail
            go_fit (CV.out _ HBW.out); rintro e w2 ⟨rfl, hb2⟩
            replace HX := Lib.hid (HX.out.bel hb2)
            replace HBW := Lib.hid (bel_trans HBW.out hb2)
            clear p0 p1 p2 p3 p4 p5
            obtain ⟨p0, p1, p2, p3, p4, p5⟩ := pcells HX.out
            go_wp2_with fail
            go_fit (CALL.out _ HBW.out); rintro e w3 ⟨lA, ll, lc, rfl, hs1, hb3⟩
            replace HX := Lib.hid (HX.out.bel hb3)
            replace HBW := Lib.hid (bel_trans HBW.out hb3)
            clear p0 p1 p2 p3 p4 p5
            obtain ⟨p0, p1, p2, p3, p4, p5⟩ := pcells HX.out
            have HS1 := Lib.hid hs1; clear hs1
            go_wp2_with fail
            go_fit (CBEST.out _ HBW.out); rintro e w4 ⟨bA, bl, bc, cA', cl, cc, rfl, hs2, hs3, hb4⟩
            replace HX := Lib.hid (HX.out.bel hb4)
            replace HBW := Lib.hid (bel_trans HBW.out hb4)
            replace HS1 := Lib.hid (HS1.out.ext hb4)
            clear p0 p1 p2 p3 p4 p5
            obtain ⟨p0, p1, p2, p3, p4, p5⟩ := pcells HX.out
            have HS2 := Lib.hid hs2; clear hs2
            have HS3 := Lib.hid hs3; clear hs3
            go_wp2_with fail
            go_fit (CI.out _ HBW.out); rintro e w5 ⟨rfl, hb5⟩
            replace HX := Lib.hid (HX.out.bel hb5)
            replace HBW := Lib.hid (bel_trans HBW.out hb5)
            replace HS1 := Lib.hid (HS1.out.ext hb5)
            replace HS2 := Lib.hid (HS2.out.ext hb5)
            replace HS3 := Lib.hid (HS3.out.ext hb5)
            clear p0 p1 p2 p3 p4 p5
            obtain ⟨p0, p1, p2, p3, p4, p5⟩ := pcells HX.out
            go_wp2_with fail
            go_fit (CC.out _ HBW.out); rintro e w6 ⟨yA, yl, yc, rfl, hs4, hb6⟩
            replace HX := Lib.hid (HX.out.bel hb6)
            replace HBW := Lib.hid (bel_trans HBW.out hb6)
            replace HS1 := Lib.hid (HS1.out.ext hb6)
            replace HS2 := Lib.hid (HS2.out.ext hb6)
            replace HS3 := Lib.hid (HS3.out.ext hb6)
            clear p0 p1 p2 p3 p4 p5
            obtain ⟨p0, p1, p2, p3, p4, p5⟩ := pcells HX.out
            have HS4 := Lib.hid hs4; clear hs4
            go_wp2_with fail
            go_fit (CRA.out _ HBW.out); rintro e w7 ⟨zA, zl, zc, rfl, hs5, hb7⟩
            replace HX := Lib.hid (HX.out.bel hb7)
            replace HBW := Lib.hid (bel_trans HBW.out hb7)
            replace HS1 := Lib.hid (HS1.out.ext hb7)
            replace HS2 := Lib.hid (HS2.out.ext hb7)
            replace HS3 := Lib.hid (HS3.out.ext hb7)
            replace HS4 := Lib.hid (HS4.out.ext hb7)
            clear p0 p1 p2 p3 p4 p5
            obtain ⟨p0, p1, p2, p3, p4, p5⟩ := pcells HX.out
            have cL := lists_any lA ll lc zA zl zc _ _ w7 HS1.out hs5
            rw [decide_eq_true rfl] at cL
            have HS5 := Lib.hid hs5; clear hs5
            have CL := Lib.hid cL; clear cL
            go_wp2_with fail
            go_fit CL.out; rintro e w8 ⟨rfl, hb8⟩
            replace HX := Lib.hid (HX.out.bel hb8)
            replace HBW := Lib.hid (bel_trans HBW.out hb8)
            replace HS2 := Lib.hid (HS2.out.ext hb8)
            replace HS3 := Lib.hid (HS3.out.ext hb8)
            replace HS4 := Lib.hid (HS4.out.ext hb8)
            clear p0 p1 p2 p3 p4 p5
            obtain ⟨p0, p1, p2, p3, p4, p5⟩ := pcells HX.out
            go_wp2_with fail
            go_fit (CS.out _ HBW.out); rintro e w9 ⟨rfl, hb9⟩
            replace HX := Lib.hid (HX.out.bel hb9)
            replace HBW := Lib.hid (bel_trans HBW.out hb9)
            replace HS2 := Lib.hid (HS2.out.ext hb9)
            replace HS3 := Lib.hid (HS3.out.ext hb9)
            replace HS4 := Lib.hid (HS4.out.ext hb9)
            clear p0 p1 p2 p3 p4 p5
            obtain ⟨p0, p1, p2, p3, p4, p5⟩ := pcells HX.out
            go_wp2_with fail
            go_fit (CRB.out _ HBW.out); rintro e w10 ⟨rA', rl', rc', qA, ql, qc, rfl, ht1, ht2, hb10⟩
            replace HX := Lib.hid (HX.out.bel hb10)
            replace HBW := Lib.hid (bel_trans HBW.out hb10)
            replace HS2 := Lib.hid (HS2.out.ext hb10)
            replace HS3 := Lib.hid (HS3.out.ext hb10)
            replace HS4 := Lib.hid (HS4.out.ext hb10)
            clear p0 p1 p2 p3 p4 p5
            obtain ⟨p0, p1, p2, p3, p4, p5⟩ := pcells HX.out
            have HT1 := Lib.hid ht1; clear ht1
            have HT2 := Lib.hid ht2; clear ht2
            go_wp2_with fail
            go_fit (CRI.out _ HBW.out); rintro e w11 ⟨rfl, hb11⟩
            replace HX := Lib.hid (HX.out.bel hb11)
            replace HBW := Lib.hid (bel_trans HBW.out hb11)
            replace HS2 := Lib.hid (HS2.out.ext hb11)
            replace HS3 := Lib.hid (HS3.out.ext hb11)
            replace HS4 := Lib.hid (HS4.out.ext hb11)
            replace HT1 := Lib.hid (HT1.out.ext hb11)
            replace HT2 := Lib.hid (HT2.out.ext hb11)
            clear p0 p1 p2 p3 p4 p5
            obtain ⟨p0, p1, p2, p3, p4, p5⟩ := pcells HX.out
            go_wp2_with fail
            go_fit (CRC.out _ HBW.out); rintro e w12 ⟨uA, ul, uc, rfl, hu, hb12⟩
            replace HX := Lib.hid (HX.out.bel hb12)
            replace HBW := Lib.hid (bel_trans HBW.out hb12)
            replace HS2 := Lib.hid (HS2.out.ext hb12)
            replace HS3 := Lib.hid (HS3.out.ext hb12)
            replace HS4 := Lib.hid (HS4.out.ext hb12)
            replace HT1 := Lib.hid (HT1.out.ext hb12)
            replace HT2 := Lib.hid (HT2.out.ext hb12)
            clear p0 p1 p2 p3 p4 p5
            have cN := lawInts_any yA yl yc uA ul uc _ _ w12 HS4.out hu
            rw [decide_eq_true rfl] at cN
            have HU := Lib.hid hu; clear hu
            have CN := Lib.hid cN; clear cN
            go_wp2_with fail
            go_fit CN.out; rintro e w13 ⟨rfl, hb13⟩
            replace HX := Lib.hid (HX.out.bel hb13)
            replace HBW := Lib.hid (bel_trans HBW.out hb13)
            replace HS2 := Lib.hid (HS2.out.ext hb13)
            replace HS3 := Lib.hid (HS3.out.ext hb13)
            replace HT1 := Lib.hid (HT1.out.ext hb13)
            replace HT2 := Lib.hid (HT2.out.ext hb13)
            have cL2 := lists_any bA bl bc rA' rl' rc' _ _ w13 HS2.out HT1.out
            rw [decide_eq_true rfl] at cL2
            have CL2 := Lib.hid cL2; clear cL2
            go_wp2_with fail
            go_fit CL2.out; rintro e w14 ⟨rfl, hb14⟩
            replace HX := Lib.hid (HX.out.bel hb14)
            replace HBW := Lib.hid (bel_trans HBW.out hb14)
            replace HS3 := Lib.hid (HS3.out.ext hb14)
            replace HT2 := Lib.hid (HT2.out.ext hb14)
            have cN2 := lawInts_any cA' cl cc qA ql qc _ _ w14 HS3.out HT2.out
            rw [decide_eq_true rfl] at cN2
            have CN2 := Lib.hid cN2; clear cN2
            go_wp2_with fail
            go_fit CN2.out; rintro e w15 ⟨rfl, hb15⟩
            replace HX := Lib.hid (HX.out.bel hb15)
            replace HBW := Lib.hid (bel_trans HBW.out hb15)
            go_wp2_with fail
            go_fit (CA.out _); rintro e wz ⟨rfl, hbz⟩
            replace HBW := Lib.hid (bel_trans HBW.out hbz)
            go_wp2_with fail
            go_ret
            exact ⟨rfl, HBW.out⟩
        · have hae : allE p = validE p := by unfold allE; rw [if_pos hv]
          have hce : checkE p m = validE p := by unfold checkE; rw [if_pos hv]
          have hco : costsE p m = [] := by unfold costsE; rw [hce, if_neg hv]
          have cAll := fun W (hb : Below w.heap.size w W) => all_err p nA nl nc sA sl sc rA rl rc mA ml mc W (hp.ext hb) (by rw [hae]; exact hv)
          have cBest := fun W (hb : Below w.heap.size w W) => best_err p nA nl nc sA sl sc rA rl rc mA ml mc W (hp.ext hb) (by rw [hae]; exact hv)
          have cI := fun W (hb : Below w.heap.size w W) => stableIs_err p nA nl nc sA sl sc rA rl rc mA ml mc xA xl xc m W (hp.ext hb) (hm.ext hb) (by rw [hce]; exact hv)
          have cC := fun W (hb : Below w.heap.size w W) => stableCosts_any p nA nl nc sA sl sc rA rl rc mA ml mc xA xl xc m W (hp.ext hb) (hm.ext hb)
          rw [hae] at cAll cBest
          rw [hce] at cI
          simp only [hce, hco] at cC
          generalize validE p = v at *
          have v0 : (v == 0) = false := by simpa using hv
          have v1 : (v != 0) = true := by simpa using hv
          have v2 : (v != v) = false := by simp
          have HP := Lib.hid hp; clear hp
          have HM := Lib.hid hm; clear hm
          have CF := Lib.hid cF; clear cF
          have CA := Lib.hid cA; clear cA
          have HX0 := Lib.hid hx0; clear hx0
          have HQ := Lib.hid hq; clear hq
          have HV := Lib.hid hv; clear hv
          have CV := Lib.hid cV; clear cV
          have CALL := Lib.hid cAll; clear cAll
          have CBEST := Lib.hid cBest; clear cBest
          have CC := Lib.hid cC; clear cC
          have HCE := Lib.hid hce; clear hce
          have HCO := Lib.hid hco; clear hco
          have HAE := Lib.hid hae; clear hae
          have CI := Lib.hid cI; clear cI
          go_enter Tryz.func3, Tryz.ntmps3
          go_wp2_with fail
          go_fit (CF.out _ (bel_alloc _ _)); rintro e w1 ⟨rfl, hb1⟩
          have HBW := Lib.hid (bel_trans (bel_alloc _ _) hb1)
          have HX := Lib.hid (HX0.out.bel hb1)
          clear hb1
          obtain ⟨p0, p1, p2, p3, p4, p5⟩ := pcells HX.out
          go_wp2_with fail
          go_fit (CV.out _ HBW.out); rintro e w2 ⟨rfl, hb2⟩
          replace HX := Lib.hid (HX.out.bel hb2)
          replace HBW := Lib.hid (bel_trans HBW.out hb2)
          clear p0 p1 p2 p3 p4 p5
          obtain ⟨p0, p1, p2, p3, p4, p5⟩ := pcells HX.out
          go_wp2_with fail
          go_fit (CALL.out _ HBW.out); rintro e w3 ⟨rfl, hb3⟩
          replace HX := Lib.hid (HX.out.bel hb3)
          replace HBW := Lib.hid (bel_trans HBW.out hb3)
          clear p0 p1 p2 p3 p4 p5
          obtain ⟨p0, p1, p2, p3, p4, p5⟩ := pcells HX.out
          go_wp2_with fail
          go_fit (CBEST.out _ HBW.out); rintro e w4 ⟨rfl, hb4⟩
          replace HX := Lib.hid (HX.out.bel hb4)
          replace HBW := Lib.hid (bel_trans HBW.out hb4)
          clear p0 p1 p2 p3 p4 p5
          obtain ⟨p0, p1, p2, p3, p4, p5⟩ := pcells HX.out
          go_wp2_with fail
          go_fit (CI.out _ HBW.out); rintro e w5 ⟨rfl, hb5⟩
          replace HX := Lib.hid (HX.out.bel hb5)
          replace HBW := Lib.hid (bel_trans HBW.out hb5)
          clear p0 p1 p2 p3 p4 p5
          obtain ⟨p0, p1, p2, p3, p4, p5⟩ := pcells HX.out
          go_wp2_with fail
          go_fit (CC.out _ HBW.out); rintro e w6 ⟨yA, yl, yc, rfl, hs4, hb6⟩
          replace HX := Lib.hid (HX.out.bel hb6)
          replace HBW := Lib.hid (bel_trans HBW.out hb6)
          clear p0 p1 p2 p3 p4 p5
          have hy0 : yl = 0 := hs4.len
          subst hy0
          have HS4 := Lib.hid hs4; clear hs4
          go_wp2_with fail
          go_fit (CA.out _); rintro e wz ⟨rfl, hbz⟩
          replace HBW := Lib.hid (bel_trans HBW.out hbz)
          go_wp2_with fail
          go_ret
          exact ⟨rfl, HBW.out⟩
end Go.Proofs.YtamdammaeaeilaaGreat

/- The law StableSets: it answers true and changes nothing that was there. -/
import Derived.Test.YtkofkkfjlccjkaaGreatSl3
import Derived.Test.YtkofkkfjlccjkaaGreatMnm
import Derived.Test.YtkofkkfjlccjkaaGreatCnt
import Derived.Test.YtkofkkfjlccjkaaGreatRfb
namespace Go.Proofs.YtkofkkfjlccjkaaGreat
open Go.RowKit

/-- Whether the arguments of Minimal are right. -/
def fineB (n : Int) (rs : List GRule) (m : List Int) : Bool := decide (0 ≤ n) && decide (n ≤ 4000) && incB n m && rs.all (fun r => decide (ruleE r n = 0))
theorem minE_fine {n : Int} {rs : List GRule} {m : List Int} (h : m.length ≤ 12) : minE n rs m = if fineB n rs m = true then 0 else 2 := by
  have hb : rs.any (badRule n) = !rs.all (fun r => decide (ruleE r n = 0)) := by
    rw [List.not_all_eq_any_not]
    rfl
  unfold minE fineB
  rw [hb]
  by_cases h1 : n < 0
  · rw [if_pos (.inl h1), if_neg]
    simp only [Bool.and_eq_true, decide_eq_true_eq]; omega
  · by_cases h2 : 4000 < n
    · rw [if_pos (.inr (.inl h2)), if_neg]
      simp only [Bool.and_eq_true, decide_eq_true_eq]; omega
    · rw [decide_eq_true (show 0 ≤ n by omega), decide_eq_true (show n ≤ 4000 by omega)]
      cases incB n m with
      | false => simp
      | true =>
        cases rs.all (fun r => decide (ruleE r n = 0)) with
        | false => simp
        | true => rw [if_neg (by simp; omega), if_neg (by omega)]; rfl
theorem min_fine {n : Int} {rs : List GRule} {m : List Int} (h : fineB n rs m = true) : minC rs m = refMinB rs m ∧ ∀ r ∈ rs, BodyOk r := by
  unfold fineB at h
  simp only [Bool.and_eq_true, List.all_eq_true, decide_eq_true_eq] at h
  have hr : ∀ r ∈ rs, RuleIs r n := fun r hr => ruleE_is (h.2 r hr)
  exact ⟨by rw [minC_rules hr, refMin_is rs m (inc_pair h.1.2)], fun r h => (hr r h).ok⟩

theorem ints_self {w : World} (aA : Option Addr) (al ac : Nat) (bA : Option Addr) (bl bc : Nat) (zs : List Int) (ha : SlIs intR w aA al ac zs) (hb : SlIs intR w bA bl bc zs) :
    Calls Tryz.prog 20 #[.slice aA al ac, .slice bA bl bc] w fun e w' => e = .returned (.bool true) ∧ Below w.heap.size w w' := by
  have h := lawInts_any aA al ac bA bl bc zs zs w ha hb
  rw [decide_eq_true rfl] at h
  exact h
set_option maxRecDepth 100000 in
set_option maxHeartbeats 16000000 in
theorem stableSets_law (n : Int) (rA : Option Addr) (rl rc : Nat) (rs : List GRule) (mA : Option Addr) (ml mc : Nat) (ms : List Int) (aA : Option Addr) (al ac : Nat) (xs : List Int) (bA : Option Addr) (bl bc : Nat) (ys : List Int) (lA : Option Addr) (ll lc : Nat) (ls : List (List Int)) (w : World)
    (hr : SlIs ruleR w rA rl rc rs) (hm : SlIs intR w mA ml mc ms) (ha : SlIs intR w aA al ac xs) (hb : SlIs intR w bA bl bc ys) (hl : SlIs (slR intR) w lA ll lc ls) :
    Calls Tryz.prog 6 #[.int .i64 n, .slice rA rl rc, .slice mA ml mc, .slice aA al ac, .slice bA bl bc, .slice lA ll lc] w fun e w' => e = .returned (.bool true) ∧ Below w.heap.size w w' := by
  have cA := awake20_any
  have q1 := hr.cap
  have q2 := hr.max
  have q3 := hm.cap
  have q4 := hm.max
  have q5 := ha.cap
  have q6 := ha.max
  have q7 := hb.cap
  have q8 := hb.max
  have q9 := hl.cap
  have q0 := hl.max
  have HR := Lib.hid hr; clear hr
  have HM := Lib.hid hm; clear hm
  have HA := Lib.hid ha; clear ha
  have HB := Lib.hid hb; clear hb
  have HL := Lib.hid hl; clear hl
  have CA := Lib.hid cA; clear cA
  by_cases z1 : 8 < rl
  · have z1' : (8 : Int) < (rl : Int) := by omega
    go_enter Tryz.func6, Tryz.ntmps6
    go_wp2_with fail
    go_fit (CA.out _); rintro e wz ⟨rfl, hbz⟩
    have HBZ := Lib.hid hbz; clear hbz
    go_wp2_with fail
    go_ret
    exact ⟨rfl, HBZ.out⟩
  by_cases z2 : 7 < ml
  · have z2' : (7 : Int) < (ml : Int) := by omega
    go_enter Tryz.func6, Tryz.ntmps6
    go_wp2_with fail
    go_fit (CA.out _); rintro e wz ⟨rfl, hbz⟩
    have HBZ := Lib.hid hbz; clear hbz
    go_wp2_with fail
    go_ret
    exact ⟨rfl, HBZ.out⟩
  by_cases z3 : 8 < ll
  · have z3' : (8 : Int) < (ll : Int) := by omega
    go_enter Tryz.func6, Tryz.ntmps6
    go_wp2_with fail
    go_fit (CA.out _); rintro e wz ⟨rfl, hbz⟩
    have HBZ := Lib.hid hbz; clear hbz
    go_wp2_with fail
    go_ret
    exact ⟨rfl, HBZ.out⟩
  by_cases z4 : 100 < al
  · have z4' : (100 : Int) < (al : Int) := by omega
    go_enter Tryz.func6, Tryz.ntmps6
    go_wp2_with fail
    go_fit (CA.out _); rintro e wz ⟨rfl, hbz⟩
    have HBZ := Lib.hid hbz; clear hbz
    go_wp2_with fail
    go_ret
    exact ⟨rfl, HBZ.out⟩
  by_cases z5 : 100 < bl
  · have z5' : (100 : Int) < (bl : Int) := by omega
    go_enter Tryz.func6, Tryz.ntmps6
    go_wp2_with fail
    go_fit (CA.out _); rintro e wz ⟨rfl, hbz⟩
    have HBZ := Lib.hid hbz; clear hbz
    go_wp2_with fail
    go_ret
    exact ⟨rfl, HBZ.out⟩
  go_enter Tryz.func6, Tryz.ntmps6
  go_wp2_with fail
  go_loopw [48] (fun t wr => ∃ (k : Nat), k ≤ rl ∧ t = .int .i64 (k : Int) ∧ Below w.heap.size w wr) (fun t _ => rl - (intOf t).toNat)
  case atStart => exact ⟨0, Nat.zero_le _, rfl, Below.refl _ _⟩
  case round =>
    obtain ⟨k, hk, rfl, hbw⟩ := hrel
    by_cases hlt : k < rl
    · obtain ⟨r, hx, hd⟩ := HR.out.drop hlt
      obtain ⟨b1, off, hA, hl, hc, bA', bl', bc', wA, wl, wc, rfl, _, f0, f1, f2, f3, f4, f5, g1, g2, g3, g4⟩ := (HR.out.ext hbw).rule hx
      have i0 : (0 : Int) ≤ (k : Int) := by omega
      have i1 : (k : Int) < (rl : Int) := by omega
      have y1 := g1.small
      have y2 := g3.small
      have y3 := g4.small
      have HBW := Lib.hid (bel_trans hbw (bel_alloc wr (.cells #[.bool r.choice, .slice hA hl hc, .bool r.sum, .int .i64 r.bound, .slice bA' bl' bc', .slice wA wl wc] 51)))
      clear hbw
      have HX := Lib.hid hx; clear hx
      have HD := Lib.hid hd; clear hd
      have G1 := Lib.hid g1; clear g1
      have G2 := Lib.hid g2; clear g2
      have G3 := Lib.hid g3; clear g3
      have G4 := Lib.hid g4; clear g4
      by_cases h36 : hl + bl' + wl ≤ 36
      · go_wp2_with fail
        go_roundw
        case rel => exact ⟨k + 1, by omega, by go_num, HBW.out⟩
        case measure => simp [intOf]; omega
      · have h36' : 36 < hl + bl' + wl := by omega
        have h36i : (36 : Int) < (hl : Int) + (bl' : Int) + (wl : Int) := by omega
        clear h36
        go_wp2_with fail
        go_fit (CA.out _); rintro e wz ⟨rfl, hbz⟩
        have hbz2 := bel_trans HBW.out hbz
        have HBZ := Lib.hid hbz; clear hbz
        have HBZ2 := Lib.hid hbz2; clear hbz2
        go_wp2_with fail
        go_ret
        exact ⟨rfl, HBZ2.out⟩
    · have HBW0 := Lib.hid hbw
      clear hbw
      go_wp2_with fail
      go_loopw [68] (fun t wr => ∃ (k : Nat), k ≤ ll ∧ t = .int .i64 (k : Int) ∧ Below w.heap.size w wr ∧ ∀ s ∈ ls.take k, s.length ≤ 8) (fun t _ => ll - (intOf t).toNat)
      case atStart => exact ⟨0, Nat.zero_le _, rfl, HBW0.out, by simp⟩
      case round =>
        obtain ⟨k, hk, rfl, hbw, hs8⟩ := hrel
        have HBW := Lib.hid hbw
        clear hbw
        by_cases hlt : k < ll
        · obtain ⟨s, hx, hd⟩ := HL.out.drop hlt
          obtain ⟨b1, off, sA, sl, sc, rfl, hbl, hcell, hsl⟩ := (HL.out.ext HBW.out).set hx
          have i0 : (0 : Int) ≤ (k : Int) := by omega
          have i1 : (k : Int) < (ll : Int) := by omega
          have y1 := hsl.cap
          have y2 := hsl.max
          by_cases h9 : sl ≤ 8
          · have hs8' : ∀ t ∈ ls.take (k + 1), t.length ≤ 8 := by
              rw [take_snoc hx]
              intro t ht
              rcases List.mem_append.1 ht with ht | ht
              · exact hs8 t ht
              · simp at ht; subst ht; rw [← hsl.len]; exact h9
            have HX := Lib.hid hx; clear hx
            have HD := Lib.hid hd; clear hd
            have HSL := Lib.hid hsl; clear hsl
            have HS8 := Lib.hid hs8; clear hs8
            have HS8' := Lib.hid hs8'; clear hs8'
            go_wp2_with fail
            go_roundw
            case rel => exact ⟨k + 1, by omega, by go_num, HBW.out, HS8'.out⟩
            case measure => simp [intOf]; omega
          · have HX := Lib.hid hx; clear hx
            have HD := Lib.hid hd; clear hd
            have HSL := Lib.hid hsl; clear hsl
            have HS8 := Lib.hid hs8; clear hs8
            go_wp2_with fail
            go_fit (CA.out _); rintro e wz ⟨rfl, hbz⟩
            have hbz2 := bel_trans HBW.out hbz
            have HBZ := Lib.hid hbz; clear hbz
            have HBZ2 := Lib.hid hbz2; clear hbz2
            go_wp2_with fail
            go_ret
            exact ⟨rfl, HBZ2.out⟩
        · have h88 : ∀ s ∈ ls, s.length ≤ 8 := by
            rw [List.take_of_length_le (by rw [← HL.out.len]; omega)] at hs8
            exact hs8
          have cS := fun W (hb : Below w.heap.size w W) => refSet_any mA ml mc ms n W (HM.out.ext hb)
          have cM := fun W (hb : Below w.heap.size w W) => stableMinimal_any n rA rl rc mA ml mc rs ms W (HR.out.ext hb) (HM.out.ext hb)
          have hfin : fineB n rs ms = (decide (0 ≤ n) && decide (n ≤ 4000) && incB n ms && rs.all (fun r => decide (ruleE r n = 0))) := rfl
          have hME := minE_fine (n := n) (rs := rs) (m := ms) (by rw [← HM.out.len]; omega)
          have cB1 := fun W (hb : Below w.heap.size w W) => better_any aA al ac bA bl bc xs ys W (HA.out.ext hb) (HB.out.ext hb)
          have cB2 := fun W (hb : Below w.heap.size w W) => refBetter_any aA al ac bA bl bc xs ys W (HA.out.ext hb) (HB.out.ext hb)
          have cU := fun W (hb : Below w.heap.size w W) => union_any _ ll lc ls W (HL.out.ext hb) (by omega) h88
          have cC := fun W (hb : Below w.heap.size w W) => common_any _ ll lc ls W (HL.out.ext hb) (by omega) h88
          have cO1 := fun W (hb : Below w.heap.size w W) => refOccur_any _ ll lc ls 1 W (HL.out.ext hb) (by omega) h88 (by unfold I64; omega)
          have cO2 := fun W (hb : Below w.heap.size w W) => refOccur_any _ ll lc ls (ll : Int) W (HL.out.ext hb) (by omega) h88 (by unfold I64; omega)
          generalize betB xs ys = bq at *
          have hbq : (bq == bq) = true := by simp
          generalize occL ls 1 = o1 at *
          generalize occL ls (ll : Int) = o2 at *
          clear hs8 h88
          by_cases hn0 : 0 ≤ n
          · by_cases hn1 : n ≤ 4000
            · rw [decide_eq_true hn0, decide_eq_true hn1, Bool.true_and, Bool.true_and] at hfin
              cases hinc : incB n ms with
              | false =>
                rw [hinc] at cS
                have hno := hinc
                have hF : fineB n rs ms = false := by rw [hfin]; simp [hno]
                have HFIN := Lib.hid hfin; clear hfin
                have CS := Lib.hid cS; clear cS
                clear HFIN
                go_wp2_with fail
                try (go_fit (CS.out _ HBW.out); rintro e wz ⟨rfl, hbz⟩; replace HBW := Lib.hid (bel_trans HBW.out hbz); clear hbz; go_wp2_with fail)
                go_loopw [17, 90] (fun v t wr => ∃ (k : Nat), k ≤ rl ∧ v = .bool false ∧ t = .int .i64 (k : Int) ∧ Below w.heap.size w wr) (fun _ t _ => rl - (intOf t).toNat)
                case atStart => exact ⟨0, Nat.zero_le _, rfl, rfl, HBW.out⟩
                case round =>
                  obtain ⟨k, hk, rfl, rfl, hbw⟩ := hrel
                  by_cases hlt : k < rl
                  · obtain ⟨r, hx, hd⟩ := HR.out.drop hlt
                    obtain ⟨b1, off, hA, hl, hc, bA', bl', bc', wA, wl, wc, rfl, _, f0, f1, f2, f3, f4, f5, g1, g2, g3, g4⟩ := (HR.out.ext hbw).rule hx
                    have i0 : (0 : Int) ≤ (k : Int) := by omega
                    have i1 : (k : Int) < (rl : Int) := by omega
                    have HBW2 := Lib.hid (bel_trans hbw (bel_alloc wr (.cells #[.bool r.choice, .slice hA hl hc, .bool r.sum, .int .i64 r.bound, .slice bA' bl' bc', .slice wA wl wc] 51)))
                    clear hbw
                    have HX := Lib.hid hx; clear hx
                    have HD := Lib.hid hd; clear hd
                    have G1 := Lib.hid g1; clear g1
                    have G2 := Lib.hid g2; clear g2
                    have G3 := Lib.hid g3; clear g3
                    have G4 := Lib.hid g4; clear g4
                    have HNO := Lib.hid hno; clear hno
                    have HME := Lib.hid hME; clear hME
                    have HF := Lib.hid hF; clear hF
                    go_wp2_with fail
                    go_roundw
                    case rel => exact ⟨k + 1, by omega, rfl, by go_num, HBW2.out⟩
                    case measure => simp [intOf]; omega
                  · clear HBW
                    have HBW := Lib.hid hbw
                    clear hbw
                    rw [hF, if_neg (by simp)] at hME
                    simp only [hME, decide_eq_false (show ¬ (2 : Int) = 0 by omega), Bool.false_and] at cM
                    have CM := Lib.hid cM; clear cM
                    have CB1 := Lib.hid cB1; clear cB1
                    have CB2 := Lib.hid cB2; clear cB2
                    have CU := Lib.hid cU; clear cU
                    have CC := Lib.hid cC; clear cC
                    have CO1 := Lib.hid cO1; clear cO1
                    have CO2 := Lib.hid cO2; clear cO2
                    have HME := Lib.hid hME; clear hME
                    have HF := Lib.hid hF; clear hF
                    go_wp2_with fail
                    go_fit (CM.out _ HBW.out); rintro e wz ⟨rfl, hbz⟩
                    replace HBW := Lib.hid (bel_trans HBW.out hbz)
                    clear hbz
                    go_wp2_with fail
                    go_fit (CB1.out _ HBW.out); rintro e wz ⟨rfl, hbz⟩
                    replace HBW := Lib.hid (bel_trans HBW.out hbz)
                    clear hbz
                    go_wp2_with fail
                    go_fit (CB2.out _ HBW.out); rintro e wz ⟨rfl, hbz⟩
                    replace HBW := Lib.hid (bel_trans HBW.out hbz)
                    clear hbz
                    go_wp2_with fail
                    go_fit (CU.out _ HBW.out); rintro e wz ⟨uA, ul, uc, rfl, hu, hbz⟩
                    replace HBW := Lib.hid (bel_trans HBW.out hbz)
                    clear hbz
                    have HU := Lib.hid hu; clear hu
                    go_wp2_with fail
                    go_fit (CO1.out _ HBW.out); rintro e wz ⟨vA, vl, vc, rfl, hv, hbz⟩
                    replace HBW := Lib.hid (bel_trans HBW.out hbz)
                    replace HU := Lib.hid (HU.out.ext hbz)
                    clear hbz
                    have HV := Lib.hid hv; clear hv
                    go_wp2_with fail
                    go_fit (ints_self uA ul uc vA vl vc _ HU.out HV.out); rintro e wz ⟨rfl, hbz⟩
                    replace HBW := Lib.hid (bel_trans HBW.out hbz)
                    clear hbz HU HV
                    go_wp2_with fail
                    go_fit (CC.out _ HBW.out); rintro e wz ⟨uA', ul', uc', rfl, hu, hbz⟩
                    replace HBW := Lib.hid (bel_trans HBW.out hbz)
                    clear hbz
                    have HU := Lib.hid hu; clear hu
                    go_wp2_with fail
                    go_fit (CO2.out _ HBW.out); rintro e wz ⟨vA', vl', vc', rfl, hv, hbz⟩
                    replace HBW := Lib.hid (bel_trans HBW.out hbz)
                    replace HU := Lib.hid (HU.out.ext hbz)
                    clear hbz
                    have HV := Lib.hid hv; clear hv
                    go_wp2_with fail
                    go_fit (ints_self uA' ul' uc' vA' vl' vc' _ HU.out HV.out); rintro e wz ⟨rfl, hbz⟩
                    replace HBW := Lib.hid (bel_trans HBW.out hbz)
                    clear hbz HU HV
                    go_wp2_with fail
                    go_fit (CA.out _); rintro e wz ⟨rfl, hbz⟩
                    have hbz2 := bel_trans HBW.out hbz
                    have HBZ := Lib.hid hbz; clear hbz
                    have HBZ2 := Lib.hid hbz2; clear hbz2
                    go_wp2_with fail
                    go_ret
                    exact ⟨rfl, HBZ2.out⟩
              | true =>
                rw [hinc] at cS hfin
                rw [Bool.true_and] at hfin
                have HFIN := Lib.hid hfin; clear hfin
                have CS := Lib.hid cS; clear cS
                go_wp2_with fail
                go_fit (CS.out _ HBW.out); rintro e wz ⟨rfl, hbz⟩
                replace HBW := Lib.hid (bel_trans HBW.out hbz)
                clear hbz
                go_wp2_with fail
                go_loopw [17, 90] (fun v t wr => ∃ (k : Nat) (q : Bool), k ≤ rl ∧ v = .bool q ∧ t = .int .i64 (k : Int) ∧ Below w.heap.size w wr ∧ fineB n rs ms = (q && (rs.drop k).all (fun r => decide (ruleE r n = 0)))) (fun _ t _ => rl - (intOf t).toNat)
                case atStart => exact ⟨0, true, Nat.zero_le _, rfl, rfl, HBW.out, by rw [HFIN.out]; rfl⟩
                case round =>
                  obtain ⟨k, q, hk, rfl, rfl, hbw, hs⟩ := hrel
                  by_cases hlt : k < rl
                  · obtain ⟨r, hx, hd⟩ := HR.out.drop hlt
                    obtain ⟨b1, off, hA, hl, hc, bA', bl', bc', wA, wl, wc, rfl, _, f0, f1, f2, f3, f4, f5, g1, g2, g3, g4⟩ := (HR.out.ext hbw).rule hx
                    have i0 : (0 : Int) ≤ (k : Int) := by omega
                    have i1 : (k : Int) < (rl : Int) := by omega
                    have hb2 := bel_trans hbw (bel_alloc wr (.cells #[.bool r.choice, .slice hA hl hc, .bool r.sum, .int .i64 r.bound, .slice bA' bl' bc', .slice wA wl wc] 51))
                    have HRU := Lib.hid (show RuleIn wr r hA hl hc bA' bl' bc' wA wl wc from ⟨g1, g2, g3, g4⟩)
                    have HBW2 := Lib.hid hb2
                    rw [hd, allD] at hs
                    clear hbw hb2
                    cases q with
                    | false =>
                      have HX := Lib.hid hx; clear hx
                      have HD := Lib.hid hd; clear hd
                      have G1 := Lib.hid g1; clear g1
                      have G2 := Lib.hid g2; clear g2
                      have G3 := Lib.hid g3; clear g3
                      have G4 := Lib.hid g4; clear g4
                      have HME := Lib.hid hME; clear hME
                      have HS := Lib.hid hs; clear hs
                      go_wp2_with fail
                      go_roundw
                      case rel => exact ⟨k + 1, false, by omega, rfl, by go_num, HBW2.out, by rw [HS.out]; rfl⟩
                      case measure => simp [intOf]; omega
                    | true =>
                      have cR := refRule_any r hA hl hc bA' bl' bc' wA wl wc n _ (HRU.out.ext (bel_alloc wr (.cells #[.bool r.choice, .slice hA hl hc, .bool r.sum, .int .i64 r.bound, .slice bA' bl' bc', .slice wA wl wc] 51)))
                      generalize ruleE r n = re at *
                      by_cases hre : re = 0
                      · rw [decide_eq_true hre] at hs
                        subst hre
                        have HX := Lib.hid hx; clear hx
                        have HD := Lib.hid hd; clear hd
                        have G1 := Lib.hid g1; clear g1
                        have G2 := Lib.hid g2; clear g2
                        have G3 := Lib.hid g3; clear g3
                        have G4 := Lib.hid g4; clear g4
                        have HME := Lib.hid hME; clear hME
                        have HS := Lib.hid hs; clear hs
                        have CR := Lib.hid cR; clear cR
                        go_wp2_with fail
                        go_fit CR.out; rintro e wz ⟨rfl, hbz⟩
                        replace HBW2 := Lib.hid (bel_trans HBW2.out hbz)
                        clear hbz
                        go_wp2_with fail
                        go_roundw
                        case rel => exact ⟨k + 1, true, by omega, rfl, by go_num, HBW2.out, by rw [HS.out]; rfl⟩
                        case measure => simp [intOf]; omega
                      · rw [decide_eq_false hre] at hs
                        have hre2 : (re == 0) = false := by simp [hre]
                        have HX := Lib.hid hx; clear hx
                        have HD := Lib.hid hd; clear hd
                        have G1 := Lib.hid g1; clear g1
                        have G2 := Lib.hid g2; clear g2
                        have G3 := Lib.hid g3; clear g3
                        have G4 := Lib.hid g4; clear g4
                        have HME := Lib.hid hME; clear hME
                        have HS := Lib.hid hs; clear hs
                        have CR := Lib.hid cR; clear cR
                        go_wp2_with fail
                        go_fit CR.out; rintro e wz ⟨rfl, hbz⟩
                        replace HBW2 := Lib.hid (bel_trans HBW2.out hbz)
                        clear hbz
                        go_wp2_with fail
                        go_roundw
                        case rel => exact ⟨k + 1, false, by omega, rfl, by go_num, HBW2.out, by rw [HS.out]; rfl⟩
                        case measure => simp [intOf]; omega
                  · rw [HR.out.stop (show rl ≤ k by omega), List.all_nil, Bool.and_true] at hs
                    clear HBW
                    have HBW := Lib.hid hbw
                    clear hbw
                    cases q with
                    | false =>
                      have hF := hs
                      rw [hF, if_neg (by simp)] at hME
                      simp only [hME, decide_eq_false (show ¬ (2 : Int) = 0 by omega), Bool.false_and] at cM
                      have CM := Lib.hid cM; clear cM
                      have CB1 := Lib.hid cB1; clear cB1
                      have CB2 := Lib.hid cB2; clear cB2
                      have CU := Lib.hid cU; clear cU
                      have CC := Lib.hid cC; clear cC
                      have CO1 := Lib.hid cO1; clear cO1
                      have CO2 := Lib.hid cO2; clear cO2
                      have HME := Lib.hid hME; clear hME
                      have HF := Lib.hid hF; clear hF
                      go_wp2_with fail
                      go_fit (CM.out _ HBW.out); rintro e wz ⟨rfl, hbz⟩
                      replace HBW := Lib.hid (bel_trans HBW.out hbz)
                      clear hbz
                      go_wp2_with fail
                      go_fit (CB1.out _ HBW.out); rintro e wz ⟨rfl, hbz⟩
                      replace HBW := Lib.hid (bel_trans HBW.out hbz)
                      clear hbz
                      go_wp2_with fail
                      go_fit (CB2.out _ HBW.out); rintro e wz ⟨rfl, hbz⟩
                      replace HBW := Lib.hid (bel_trans HBW.out hbz)
                      clear hbz
                      go_wp2_with fail
                      go_fit (CU.out _ HBW.out); rintro e wz ⟨uA, ul, uc, rfl, hu, hbz⟩
                      replace HBW := Lib.hid (bel_trans HBW.out hbz)
                      clear hbz
                      have HU := Lib.hid hu; clear hu
                      go_wp2_with fail
                      go_fit (CO1.out _ HBW.out); rintro e wz ⟨vA, vl, vc, rfl, hv, hbz⟩
                      replace HBW := Lib.hid (bel_trans HBW.out hbz)
                      replace HU := Lib.hid (HU.out.ext hbz)
                      clear hbz
                      have HV := Lib.hid hv; clear hv
                      go_wp2_with fail
                      go_fit (ints_self uA ul uc vA vl vc _ HU.out HV.out); rintro e wz ⟨rfl, hbz⟩
                      replace HBW := Lib.hid (bel_trans HBW.out hbz)
                      clear hbz HU HV
                      go_wp2_with fail
                      go_fit (CC.out _ HBW.out); rintro e wz ⟨uA', ul', uc', rfl, hu, hbz⟩
                      replace HBW := Lib.hid (bel_trans HBW.out hbz)
                      clear hbz
                      have HU := Lib.hid hu; clear hu
                      go_wp2_with fail
                      go_fit (CO2.out _ HBW.out); rintro e wz ⟨vA', vl', vc', rfl, hv, hbz⟩
                      replace HBW := Lib.hid (bel_trans HBW.out hbz)
                      replace HU := Lib.hid (HU.out.ext hbz)
                      clear hbz
                      have HV := Lib.hid hv; clear hv
                      go_wp2_with fail
                      go_fit (ints_self uA' ul' uc' vA' vl' vc' _ HU.out HV.out); rintro e wz ⟨rfl, hbz⟩
                      replace HBW := Lib.hid (bel_trans HBW.out hbz)
                      clear hbz HU HV
                      go_wp2_with fail
                      go_fit (CA.out _); rintro e wz ⟨rfl, hbz⟩
                      have hbz2 := bel_trans HBW.out hbz
                      have HBZ := Lib.hid hbz; clear hbz
                      have HBZ2 := Lib.hid hbz2; clear hbz2
                      go_wp2_with fail
                      go_ret
                      exact ⟨rfl, HBZ2.out⟩
                    | true =>
                      have hF := hs
                      obtain ⟨hmin, hbo⟩ := min_fine hs
                      rw [hF, if_pos rfl] at hME
                      have cR := fun W (hb : Below w.heap.size w W) => refMinimal_any rA rl rc rs mA ml mc ms W (HR.out.ext hb) (HM.out.ext hb) hbo (by omega)
                      rw [← hmin] at cR
                      simp only [hME, decide_true, Bool.true_and] at cM
                      generalize minC rs ms = mc' at *
                      cases mc' with
                      | false =>
                        have CM := Lib.hid cM; clear cM
                        have CR := Lib.hid cR; clear cR
                        have CB1 := Lib.hid cB1; clear cB1
                        have CB2 := Lib.hid cB2; clear cB2
                        have CU := Lib.hid cU; clear cU
                        have CC := Lib.hid cC; clear cC
                        have CO1 := Lib.hid cO1; clear cO1
                        have CO2 := Lib.hid cO2; clear cO2
                        have HME := Lib.hid hME; clear hME
                        have HF := Lib.hid hF; clear hF
                        have HMIN := Lib.hid hmin; clear hmin
                        have HBO := Lib.hid hbo; clear hbo
                        have HS := Lib.hid hs; clear hs
                        go_wp2_with fail
                        go_fit (CM.out _ HBW.out); rintro e wz ⟨rfl, hbz⟩
                        replace HBW := Lib.hid (bel_trans HBW.out hbz)
                        clear hbz
                        go_wp2_with fail
                        go_fit (CR.out _ HBW.out); rintro e wz ⟨rfl, hbz⟩
                        replace HBW := Lib.hid (bel_trans HBW.out hbz)
                        clear hbz
                        go_wp2_with fail
                        go_fit (CB1.out _ HBW.out); rintro e wz ⟨rfl, hbz⟩
                        replace HBW := Lib.hid (bel_trans HBW.out hbz)
                        clear hbz
                        go_wp2_with fail
                        go_fit (CB2.out _ HBW.out); rintro e wz ⟨rfl, hbz⟩
                        replace HBW := Lib.hid (bel_trans HBW.out hbz)
                        clear hbz
                        go_wp2_with fail
                        go_fit (CU.out _ HBW.out); rintro e wz ⟨uA, ul, uc, rfl, hu, hbz⟩
                        replace HBW := Lib.hid (bel_trans HBW.out hbz)
                        clear hbz
                        have HU := Lib.hid hu; clear hu
                        go_wp2_with fail
                        go_fit (CO1.out _ HBW.out); rintro e wz ⟨vA, vl, vc, rfl, hv, hbz⟩
                        replace HBW := Lib.hid (bel_trans HBW.out hbz)
                        replace HU := Lib.hid (HU.out.ext hbz)
                        clear hbz
                        have HV := Lib.hid hv; clear hv
                        go_wp2_with fail
                        go_fit (ints_self uA ul uc vA vl vc _ HU.out HV.out); rintro e wz ⟨rfl, hbz⟩
                        replace HBW := Lib.hid (bel_trans HBW.out hbz)
                        clear hbz HU HV
                        go_wp2_with fail
                        go_fit (CC.out _ HBW.out); rintro e wz ⟨uA', ul', uc', rfl, hu, hbz⟩
                        replace HBW := Lib.hid (bel_trans HBW.out hbz)
                        clear hbz
                        have HU := Lib.hid hu; clear hu
                        go_wp2_with fail
                        go_fit (CO2.out _ HBW.out); rintro e wz ⟨vA', vl', vc', rfl, hv, hbz⟩
                        replace HBW := Lib.hid (bel_trans HBW.out hbz)
                        replace HU := Lib.hid (HU.out.ext hbz)
                        clear hbz
                        have HV := Lib.hid hv; clear hv
                        go_wp2_with fail
                        go_fit (ints_self uA' ul' uc' vA' vl' vc' _ HU.out HV.out); rintro e wz ⟨rfl, hbz⟩
                        replace HBW := Lib.hid (bel_trans HBW.out hbz)
                        clear hbz HU HV
                        go_wp2_with fail
                        go_fit (CA.out _); rintro e wz ⟨rfl, hbz⟩
                        have hbz2 := bel_trans HBW.out hbz
                        have HBZ := Lib.hid hbz; clear hbz
                        have HBZ2 := Lib.hid hbz2; clear hbz2
                        go_wp2_with fail
                        go_ret
                        exact ⟨rfl, HBZ2.out⟩
                      | true =>
                        have CM := Lib.hid cM; clear cM
                        have CR := Lib.hid cR; clear cR
                        have CB1 := Lib.hid cB1; clear cB1
                        have CB2 := Lib.hid cB2; clear cB2
                        have CU := Lib.hid cU; clear cU
                        have CC := Lib.hid cC; clear cC
                        have CO1 := Lib.hid cO1; clear cO1
                        have CO2 := Lib.hid cO2; clear cO2
                        have HME := Lib.hid hME; clear hME
                        have HF := Lib.hid hF; clear hF
                        have HMIN := Lib.hid hmin; clear hmin
                        have HBO := Lib.hid hbo; clear hbo
                        have HS := Lib.hid hs; clear hs
                        go_wp2_with fail
                        go_fit (CM.out _ HBW.out); rintro e wz ⟨rfl, hbz⟩
                        replace HBW := Lib.hid (bel_trans HBW.out hbz)
                        clear hbz
                        go_wp2_with fail
                        go_fit (CR.out _ HBW.out); rintro e wz ⟨rfl, hbz⟩
                        replace HBW := Lib.hid (bel_trans HBW.out hbz)
                        clear hbz
                        go_wp2_with fail
                        go_fit (CB1.out _ HBW.out); rintro e wz ⟨rfl, hbz⟩
                        replace HBW := Lib.hid (bel_trans HBW.out hbz)
                        clear hbz
                        go_wp2_with fail
                        go_fit (CB2.out _ HBW.out); rintro e wz ⟨rfl, hbz⟩
                        replace HBW := Lib.hid (bel_trans HBW.out hbz)
                        clear hbz
                        go_wp2_with fail
                        go_fit (CU.out _ HBW.out); rintro e wz ⟨uA, ul, uc, rfl, hu, hbz⟩
                        replace HBW := Lib.hid (bel_trans HBW.out hbz)
                        clear hbz
                        have HU := Lib.hid hu; clear hu
                        go_wp2_with fail
                        go_fit (CO1.out _ HBW.out); rintro e wz ⟨vA, vl, vc, rfl, hv, hbz⟩
                        replace HBW := Lib.hid (bel_trans HBW.out hbz)
                        replace HU := Lib.hid (HU.out.ext hbz)
                        clear hbz
                        have HV := Lib.hid hv; clear hv
                        go_wp2_with fail
                        go_fit (ints_self uA ul uc vA vl vc _ HU.out HV.out); rintro e wz ⟨rfl, hbz⟩
                        replace HBW := Lib.hid (bel_trans HBW.out hbz)
                        clear hbz HU HV
                        go_wp2_with fail
                        go_fit (CC.out _ HBW.out); rintro e wz ⟨uA', ul', uc', rfl, hu, hbz⟩
                        replace HBW := Lib.hid (bel_trans HBW.out hbz)
                        clear hbz
                        have HU := Lib.hid hu; clear hu
                        go_wp2_with fail
                        go_fit (CO2.out _ HBW.out); rintro e wz ⟨vA', vl', vc', rfl, hv, hbz⟩
                        replace HBW := Lib.hid (bel_trans HBW.out hbz)
                        replace HU := Lib.hid (HU.out.ext hbz)
                        clear hbz
                        have HV := Lib.hid hv; clear hv
                        go_wp2_with fail
                        go_fit (ints_self uA' ul' uc' vA' vl' vc' _ HU.out HV.out); rintro e wz ⟨rfl, hbz⟩
                        replace HBW := Lib.hid (bel_trans HBW.out hbz)
                        clear hbz HU HV
                        go_wp2_with fail
                        go_fit (CA.out _); rintro e wz ⟨rfl, hbz⟩
                        have hbz2 := bel_trans HBW.out hbz
                        have HBZ := Lib.hid hbz; clear hbz
                        have HBZ2 := Lib.hid hbz2; clear hbz2
                        go_wp2_with fail
                        go_ret
                        exact ⟨rfl, HBZ2.out⟩
            · have hno := decide_eq_false hn1
              have hn1' : 4000 < n := by omega
              have hF : fineB n rs ms = false := by rw [hfin]; simp [hno]
              have HFIN := Lib.hid hfin; clear hfin
              have CS := Lib.hid cS; clear cS
              clear HFIN
              go_wp2_with fail
              try (go_fit (CS.out _ HBW.out); rintro e wz ⟨rfl, hbz⟩; replace HBW := Lib.hid (bel_trans HBW.out hbz); clear hbz; go_wp2_with fail)
              go_loopw [17, 90] (fun v t wr => ∃ (k : Nat), k ≤ rl ∧ v = .bool false ∧ t = .int .i64 (k : Int) ∧ Below w.heap.size w wr) (fun _ t _ => rl - (intOf t).toNat)
              case atStart => exact ⟨0, Nat.zero_le _, rfl, rfl, HBW.out⟩
              case round =>
                obtain ⟨k, hk, rfl, rfl, hbw⟩ := hrel
                by_cases hlt : k < rl
                · obtain ⟨r, hx, hd⟩ := HR.out.drop hlt
                  obtain ⟨b1, off, hA, hl, hc, bA', bl', bc', wA, wl, wc, rfl, _, f0, f1, f2, f3, f4, f5, g1, g2, g3, g4⟩ := (HR.out.ext hbw).rule hx
                  have i0 : (0 : Int) ≤ (k : Int) := by omega
                  have i1 : (k : Int) < (rl : Int) := by omega
                  have HBW2 := Lib.hid (bel_trans hbw (bel_alloc wr (.cells #[.bool r.choice, .slice hA hl hc, .bool r.sum, .int .i64 r.bound, .slice bA' bl' bc', .slice wA wl wc] 51)))
                  clear hbw
                  have HX := Lib.hid hx; clear hx
                  have HD := Lib.hid hd; clear hd
                  have G1 := Lib.hid g1; clear g1
                  have G2 := Lib.hid g2; clear g2
                  have G3 := Lib.hid g3; clear g3
                  have G4 := Lib.hid g4; clear g4
                  have HNO := Lib.hid hno; clear hno
                  have HME := Lib.hid hME; clear hME
                  have HF := Lib.hid hF; clear hF
                  go_wp2_with fail
                  go_roundw
                  case rel => exact ⟨k + 1, by omega, rfl, by go_num, HBW2.out⟩
                  case measure => simp [intOf]; omega
                · clear HBW
                  have HBW := Lib.hid hbw
                  clear hbw
                  rw [hF, if_neg (by simp)] at hME
                  simp only [hME, decide_eq_false (show ¬ (2 : Int) = 0 by omega), Bool.false_and] at cM
                  have CM := Lib.hid cM; clear cM
                  have CB1 := Lib.hid cB1; clear cB1
                  have CB2 := Lib.hid cB2; clear cB2
                  have CU := Lib.hid cU; clear cU
                  have CC := Lib.hid cC; clear cC
                  have CO1 := Lib.hid cO1; clear cO1
                  have CO2 := Lib.hid cO2; clear cO2
                  have HME := Lib.hid hME; clear hME
                  have HF := Lib.hid hF; clear hF
                  go_wp2_with fail
                  go_fit (CM.out _ HBW.out); rintro e wz ⟨rfl, hbz⟩
                  replace HBW := Lib.hid (bel_trans HBW.out hbz)
                  clear hbz
                  go_wp2_with fail
                  go_fit (CB1.out _ HBW.out); rintro e wz ⟨rfl, hbz⟩
                  replace HBW := Lib.hid (bel_trans HBW.out hbz)
                  clear hbz
                  go_wp2_with fail
                  go_fit (CB2.out _ HBW.out); rintro e wz ⟨rfl, hbz⟩
                  replace HBW := Lib.hid (bel_trans HBW.out hbz)
                  clear hbz
                  go_wp2_with fail
                  go_fit (CU.out _ HBW.out); rintro e wz ⟨uA, ul, uc, rfl, hu, hbz⟩
                  replace HBW := Lib.hid (bel_trans HBW.out hbz)
                  clear hbz
                  have HU := Lib.hid hu; clear hu
                  go_wp2_with fail
                  go_fit (CO1.out _ HBW.out); rintro e wz ⟨vA, vl, vc, rfl, hv, hbz⟩
                  replace HBW := Lib.hid (bel_trans HBW.out hbz)
                  replace HU := Lib.hid (HU.out.ext hbz)
                  clear hbz
                  have HV := Lib.hid hv; clear hv
                  go_wp2_with fail
                  go_fit (ints_self uA ul uc vA vl vc _ HU.out HV.out); rintro e wz ⟨rfl, hbz⟩
                  replace HBW := Lib.hid (bel_trans HBW.out hbz)
                  clear hbz HU HV
                  go_wp2_with fail
                  go_fit (CC.out _ HBW.out); rintro e wz ⟨uA', ul', uc', rfl, hu, hbz⟩
                  replace HBW := Lib.hid (bel_trans HBW.out hbz)
                  clear hbz
                  have HU := Lib.hid hu; clear hu
                  go_wp2_with fail
                  go_fit (CO2.out _ HBW.out); rintro e wz ⟨vA', vl', vc', rfl, hv, hbz⟩
                  replace HBW := Lib.hid (bel_trans HBW.out hbz)
                  replace HU := Lib.hid (HU.out.ext hbz)
                  clear hbz
                  have HV := Lib.hid hv; clear hv
                  go_wp2_with fail
                  go_fit (ints_self uA' ul' uc' vA' vl' vc' _ HU.out HV.out); rintro e wz ⟨rfl, hbz⟩
                  replace HBW := Lib.hid (bel_trans HBW.out hbz)
                  clear hbz HU HV
                  go_wp2_with fail
                  go_fit (CA.out _); rintro e wz ⟨rfl, hbz⟩
                  have hbz2 := bel_trans HBW.out hbz
                  have HBZ := Lib.hid hbz; clear hbz
                  have HBZ2 := Lib.hid hbz2; clear hbz2
                  go_wp2_with fail
                  go_ret
                  exact ⟨rfl, HBZ2.out⟩
          · have hno := decide_eq_false hn0
            have hn0' : n < 0 := by omega
            have hF : fineB n rs ms = false := by rw [hfin]; simp [hno]
            have HFIN := Lib.hid hfin; clear hfin
            have CS := Lib.hid cS; clear cS
            clear HFIN
            go_wp2_with fail
            try (go_fit (CS.out _ HBW.out); rintro e wz ⟨rfl, hbz⟩; replace HBW := Lib.hid (bel_trans HBW.out hbz); clear hbz; go_wp2_with fail)
            go_loopw [17, 90] (fun v t wr => ∃ (k : Nat), k ≤ rl ∧ v = .bool false ∧ t = .int .i64 (k : Int) ∧ Below w.heap.size w wr) (fun _ t _ => rl - (intOf t).toNat)
            case atStart => exact ⟨0, Nat.zero_le _, rfl, rfl, HBW.out⟩
            case round =>
              obtain ⟨k, hk, rfl, rfl, hbw⟩ := hrel
              by_cases hlt : k < rl
              · obtain ⟨r, hx, hd⟩ := HR.out.drop hlt
                obtain ⟨b1, off, hA, hl, hc, bA', bl', bc', wA, wl, wc, rfl, _, f0, f1, f2, f3, f4, f5, g1, g2, g3, g4⟩ := (HR.out.ext hbw).rule hx
                have i0 : (0 : Int) ≤ (k : Int) := by omega
                have i1 : (k : Int) < (rl : Int) := by omega
                have HBW2 := Lib.hid (bel_trans hbw (bel_alloc wr (.cells #[.bool r.choice, .slice hA hl hc, .bool r.sum, .int .i64 r.bound, .slice bA' bl' bc', .slice wA wl wc] 51)))
                clear hbw
                have HX := Lib.hid hx; clear hx
                have HD := Lib.hid hd; clear hd
                have G1 := Lib.hid g1; clear g1
                have G2 := Lib.hid g2; clear g2
                have G3 := Lib.hid g3; clear g3
                have G4 := Lib.hid g4; clear g4
                have HNO := Lib.hid hno; clear hno
                have HME := Lib.hid hME; clear hME
                have HF := Lib.hid hF; clear hF
                go_wp2_with fail
                go_roundw
                case rel => exact ⟨k + 1, by omega, rfl, by go_num, HBW2.out⟩
                case measure => simp [intOf]; omega
              · clear HBW
                have HBW := Lib.hid hbw
                clear hbw
                rw [hF, if_neg (by simp)] at hME
                simp only [hME, decide_eq_false (show ¬ (2 : Int) = 0 by omega), Bool.false_and] at cM
                have CM := Lib.hid cM; clear cM
                have CB1 := Lib.hid cB1; clear cB1
                have CB2 := Lib.hid cB2; clear cB2
                have CU := Lib.hid cU; clear cU
                have CC := Lib.hid cC; clear cC
                have CO1 := Lib.hid cO1; clear cO1
                have CO2 := Lib.hid cO2; clear cO2
                have HME := Lib.hid hME; clear hME
                have HF := Lib.hid hF; clear hF
                go_wp2_with fail
                go_fit (CM.out _ HBW.out); rintro e wz ⟨rfl, hbz⟩
                replace HBW := Lib.hid (bel_trans HBW.out hbz)
                clear hbz
                go_wp2_with fail
                go_fit (CB1.out _ HBW.out); rintro e wz ⟨rfl, hbz⟩
                replace HBW := Lib.hid (bel_trans HBW.out hbz)
                clear hbz
                go_wp2_with fail
                go_fit (CB2.out _ HBW.out); rintro e wz ⟨rfl, hbz⟩
                replace HBW := Lib.hid (bel_trans HBW.out hbz)
                clear hbz
                go_wp2_with fail
                go_fit (CU.out _ HBW.out); rintro e wz ⟨uA, ul, uc, rfl, hu, hbz⟩
                replace HBW := Lib.hid (bel_trans HBW.out hbz)
                clear hbz
                have HU := Lib.hid hu; clear hu
                go_wp2_with fail
                go_fit (CO1.out _ HBW.out); rintro e wz ⟨vA, vl, vc, rfl, hv, hbz⟩
                replace HBW := Lib.hid (bel_trans HBW.out hbz)
                replace HU := Lib.hid (HU.out.ext hbz)
                clear hbz
                have HV := Lib.hid hv; clear hv
                go_wp2_with fail
                go_fit (ints_self uA ul uc vA vl vc _ HU.out HV.out); rintro e wz ⟨rfl, hbz⟩
                replace HBW := Lib.hid (bel_trans HBW.out hbz)
                clear hbz HU HV
                go_wp2_with fail
                go_fit (CC.out _ HBW.out); rintro e wz ⟨uA', ul', uc', rfl, hu, hbz⟩
                replace HBW := Lib.hid (bel_trans HBW.out hbz)
                clear hbz
                have HU := Lib.hid hu; clear hu
                go_wp2_with fail
                go_fit (CO2.out _ HBW.out); rintro e wz ⟨vA', vl', vc', rfl, hv, hbz⟩
                replace HBW := Lib.hid (bel_trans HBW.out hbz)
                replace HU := Lib.hid (HU.out.ext hbz)
                clear hbz
                have HV := Lib.hid hv; clear hv
                go_wp2_with fail
                go_fit (ints_self uA' ul' uc' vA' vl' vc' _ HU.out HV.out); rintro e wz ⟨rfl, hbz⟩
                replace HBW := Lib.hid (bel_trans HBW.out hbz)
                clear hbz HU HV
                go_wp2_with fail
                go_fit (CA.out _); rintro e wz ⟨rfl, hbz⟩
                have hbz2 := bel_trans HBW.out hbz
                have HBZ := Lib.hid hbz; clear hbz
                have HBZ2 := Lib.hid hbz2; clear hbz2
                go_wp2_with fail
                go_ret
                exact ⟨rfl, HBZ2.out⟩
end Go.Proofs.YtkofkkfjlccjkaaGreat

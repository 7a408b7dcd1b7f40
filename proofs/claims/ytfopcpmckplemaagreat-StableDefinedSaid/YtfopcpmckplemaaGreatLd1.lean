/- The law StableDefined: it answers true and changes nothing that was there. -/
import Derived.Test.YtfopcpmckplemaaGreatSl3
import Derived.Test.YtfopcpmckplemaaGreatHsb
import Derived.Test.YtfopcpmckplemaaGreatMnm
import Derived.Test.YtfopcpmckplemaaGreatRdc
namespace Go.Proofs.YtfopcpmckplemaaGreat
open Go.RowKit

structure DfnLaw (p : GProg) (m : List Int) (all : List (List Int)) (is md mn : Bool) : Prop where
  v : validE p = 0
  s : SmallP p
  c : checkE p m = 0
  acc : isC p m (disB p) = is
  dfn : is = (md && mn)
  mE : minE p.n (reductL p.rules m) m = 0
  mem : decide (m ∈ all) = is
  each : ∀ x ∈ all, checkE p x = 0 ∧ isC p x (disB p) = true ∧ x.length ≤ 12
  ord : ∀ (k : Nat) (x y : List Int), all[k]? = some x → all[k + 1]? = some y → lexLt x y = true
  ml : m.length ≤ 12
theorem dfn_law {p : GProg} (h : smallB p = true) {m : List Int} (hm : incB p.n m = true) : DfnLaw p m (allL p) (isL p m) (modelB p m) (minC (reductL p.rules m) m) := by
  obtain ⟨h1, h2, h3⟩ := small_is h
  have hs := small_P h
  have hn := hs.n0
  have hr : ∀ r ∈ reductL p.rules m, ruleE r p.n = 0 := fun r hr => (reductL_is m p.rules hs.is.rules r hr).1
  have hml : m.length ≤ 12 := by have := inc_lenN hn hm; omega
  refine ⟨h3, hs, check_of h3 hm, isC_is hs.is m, ?_, ?_, ?_, fun x hx => ?_, fun k x y hx hy => ?_, hml⟩
  · rw [is_def hs.is hm hn, minC_rules (n := p.n) fun r hr' => ruleE_is (hr r hr')]
  · unfold minE
    rw [if_neg, if_neg (by omega)]
    rw [hm]
    have : (reductL p.rules m).any (badRule p.n) = false := by
      rw [List.any_eq_false]
      intro r hr'
      unfold badRule
      rw [hr r hr']; simp
    rw [this]
    simp; omega
  · rw [Bool.eq_iff_iff, decide_eq_true_eq, all_mem p hn m, hm]; simp
  · obtain ⟨a, b⟩ := (all_mem p hn x).1 hx
    exact ⟨check_of h3 a, by rw [isC_is hs.is, b], by have := inc_lenN hn a; omega⟩
  · have hp := all_sorted p
    have h1 := (List.getElem?_eq_some_iff.1 hx)
    have h2 := (List.getElem?_eq_some_iff.1 hy)
    obtain ⟨i1, rfl⟩ := h1
    obtain ⟨i2, rfl⟩ := h2
    exact List.pairwise_iff_getElem.1 hp k (k + 1) i1 i2 (by omega)

set_option maxRecDepth 100000 in
set_option maxHeartbeats 2000000 in
theorem stableDefined_law (p : GProg) (nA : Option Addr) (nl nc : Nat) (sA : Option Addr) (sl sc : Nat) (rA : Option Addr) (rl rc : Nat) (mA : Option Addr) (ml mc : Nat) (b : Int) (w : World) (hp : ProgIn w p nA nl nc sA sl sc rA rl rc mA ml mc) (hb0 : 0 ≤ b) (hb1 : b ≤ 65535) :
    Calls Tryz.prog 4 #[.agg #[.int .i64 p.n, .slice nA nl nc, .slice sA sl sc, .slice rA rl rc, .slice mA ml mc], .int .u16 b] w fun e w' => e = .returned (.bool true) ∧ Below w.heap.size w w' := by
  have cS := fun W (hb : Below w.heap.size w W) => small_any p nA nl nc sA sl sc rA rl rc mA ml mc W (hp.ext hb)
  have cA := awake20_any
  cases hsm : smallB p with
  | false =>
    rw [hsm] at cS
    have HP := Lib.hid hp; clear hp
    have CS := Lib.hid cS; clear cS
    have CA := Lib.hid cA; clear cA
    have HSM := Lib.hid hsm; clear hsm
    go_enter Tryz.func4, Tryz.ntmps4
    go_wp2_with fail
    go_fit (CS.out _ (bel_alloc _ _)); rintro e w1 ⟨rfl, hb⟩
    have HBW := Lib.hid (bel_trans (bel_alloc _ _) hb)
    clear hb
    go_wp2_with fail
    go_fit (CA.out _); rintro e w2 ⟨rfl, hb⟩
    have HBZ := Lib.hid (bel_trans HBW.out hb)
    clear hb
    go_wp2_with fail
    go_ret
    exact ⟨rfl, HBZ.out⟩
  | true =>
    rw [hsm] at cS
    have hn6 := (small_is hsm).2.1
    have hn0 := valid_n (small_is hsm).2.2
    have L := Lib.hid (dfn_law hsm (subset_inc p.n b hn0))
    have cSm := fun W => subset_any p.n b W (by omega) hn0 hb0 hb1
    generalize subsetL p.n b = m at *
    have cI := fun A l c x W (hb : Below w.heap.size w W) (h : SlIs intR W A l c x) h1 h2 => stableIs_any p nA nl nc sA sl sc rA rl rc mA ml mc A l c x W (hp.ext hb) h h1 h2 (fun h => L.out.s.red x h) hn0
    have cAll := fun W (hb : Below w.heap.size w W) => all_any p nA nl nc sA sl sc rA rl rc mA ml mc W (hp.ext hb) L.out.v L.out.s
    have cMd := fun A l c W (hb : Below w.heap.size w W) (h : SlIs intR W A l c m) => models_ok p nA nl nc sA sl sc rA rl rc mA ml mc A l c m W (hp.ext hb) h L.out.c
    have cRd := fun A l c W (hb : Below w.heap.size w W) (h : SlIs intR W A l c m) => reduct_any p nA nl nc sA sl sc rA rl rc mA ml mc A l c m W (hp.ext hb) h L.out.c
    have cMn := fun A l c B k q W (h : SlIs ruleR W A l c (reductL p.rules m)) (hm : SlIs intR W B k q m) => stableMinimal_any p.n A l c B k q (reductL p.rules m) m W h hm
    simp only [L.out.mE, decide_true, Bool.true_and] at cMn
    have h12 := L.out.s.all_le
    generalize isL p m = is at *
    generalize modelB p m = md at *
    generalize minC (reductL p.rules m) m = mn at *
    generalize allL p = all at *
    have HP := Lib.hid hp; clear hp
    have CS := Lib.hid cS; clear cS
    have CA := Lib.hid cA; clear cA
    have HSM := Lib.hid hsm; clear hsm
    have CSM := Lib.hid cSm; clear cSm
    have CI := Lib.hid cI; clear cI
    have CALL := Lib.hid cAll; clear cAll
    have CMD := Lib.hid cMd; clear cMd
    have CRD := Lib.hid cRd; clear cRd
    have CMN := Lib.hid cMn; clear cMn
    go_enter Tryz.func4, Tryz.ntmps4
    go_wp2_with fail
    go_fit (CS.out _ (bel_alloc _ _)); rintro e w1 ⟨rfl, hb⟩
    have HX := Lib.hid ((Blk.new w 27 #[.int .i64 p.n, .slice nA nl nc, .slice sA sl sc, .slice rA rl rc, .slice mA ml mc]).bel hb)
    have HBW := Lib.hid (bel_trans (bel_alloc _ _) hb)
    clear hb
    obtain ⟨p0, p1, p2, p3, p4, p5⟩ := pcells HX.out
    go_wp2_with fail
    go_fit (CSM.out _); rintro e w2 ⟨xA, xl, xc, rfl, hm, hb⟩
    replace HX := Lib.hid (HX.out.bel hb)
    replace HBW := Lib.hid (bel_trans HBW.out hb)
    clear hb
    clear p0 p1 p2 p3 p4 p5
    obtain ⟨p0, p1, p2, p3, p4, p5⟩ := pcells HX.out
    have HM := Lib.hid hm; clear hm
    have hxl : xl ≤ 12 := by have := HM.out.len; have := L.out.ml; omega
    go_wp2_with fail
    go_fit (CALL.out _ HBW.out); rintro e w3 ⟨A, l, c, rfl, hsl, hb⟩
    replace HX := Lib.hid (HX.out.bel hb)
    replace HBW := Lib.hid (bel_trans HBW.out hb)
    replace HM := Lib.hid (HM.out.ext hb)
    clear hb
    clear p0 p1 p2 p3 p4 p5
    obtain ⟨p0, p1, p2, p3, p4, p5⟩ := pcells HX.out
    have HSL := Lib.hid hsl; clear hsl
    go_wp2_with fail
    go_fit (CI.out xA xl xc m _ HBW.out HM.out L.out.c hxl); rintro e w4 ⟨rfl, hb⟩
    rw [L.out.acc]
    replace HX := Lib.hid (HX.out.bel hb)
    replace HBW := Lib.hid (bel_trans HBW.out hb)
    replace HM := Lib.hid (HM.out.ext hb)
    replace HSL := Lib.hid (HSL.out.ext hb)
    clear hb
    clear p0 p1 p2 p3 p4 p5
    obtain ⟨p0, p1, p2, p3, p4, p5⟩ := pcells HX.out
    go_wp2_with fail
    go_fit (CMD.out xA xl xc _ HBW.out HM.out); rintro e w5 ⟨rfl, hb⟩
    replace HX := Lib.hid (HX.out.bel hb)
    replace HBW := Lib.hid (bel_trans HBW.out hb)
    replace HM := Lib.hid (HM.out.ext hb)
    replace HSL := Lib.hid (HSL.out.ext hb)
    clear hb
    clear p0 p1 p2 p3 p4 p5
    obtain ⟨p0, p1, p2, p3, p4, p5⟩ := pcells HX.out
    go_wp2_with fail
    go_fit (CRD.out xA xl xc _ HBW.out HM.out); rintro e w6 ⟨gA, gl, gc, rfl, hg, hb⟩
    replace HX := Lib.hid (HX.out.bel hb)
    replace HBW := Lib.hid (bel_trans HBW.out hb)
    replace HM := Lib.hid (HM.out.ext hb)
    replace HSL := Lib.hid (HSL.out.ext hb)
    clear hb
    clear p0 p1 p2 p3 p4 p5
    obtain ⟨p0, p1, p2, p3, p4, p5⟩ := pcells HX.out
    have HG := Lib.hid hg; clear hg
    go_wp2_with fail
    go_fit (CMN.out gA gl gc xA xl xc _ HG.out HM.out); rintro e w7 ⟨rfl, hb⟩
    replace HX := Lib.hid (HX.out.bel hb)
    replace HBW := Lib.hid (bel_trans HBW.out hb)
    replace HM := Lib.hid (HM.out.ext hb)
    replace HSL := Lib.hid (HSL.out.ext hb)
    clear hb HG
    clear p0 p1 p2 p3 p4 p5
    obtain ⟨p0, p1, p2, p3, p4, p5⟩ := pcells HX.out
    have hdf := L.out.dfn
    have cH := hasM_any A l c xA xl xc all m w7 HSL.out HM.out
    rw [L.out.mem] at cH
    have hll := HSL.out.len
    have hlc := HSL.out.cap
    have hlm := HSL.out.max
    have HLL := Lib.hid hll; clear hll
    cases md with
    | false =>
      simp only [Bool.false_and] at hdf
      subst hdf
      have CH := Lib.hid cH; clear cH
      go_wp2_with fail
      go_fit CH.out; rintro e w8 ⟨rfl, hb⟩
      replace HX := Lib.hid (HX.out.bel hb)
      replace HBW := Lib.hid (bel_trans HBW.out hb)
      replace HSL := Lib.hid (HSL.out.ext hb)
      clear hb HM
      clear p0 p1 p2 p3 p4 p5
      go_wp2_with fail
      go_loopw [86] (fun t wr => ∃ (k : Nat), k ≤ l ∧ t = .int .i64 (k : Int) ∧ Below w8.heap.size w8 wr) (fun t _ => l - (intOf t).toNat)
      case atStart => exact ⟨0, Nat.zero_le _, rfl, Below.refl _ _⟩
      case round =>
        obtain ⟨k, hk, rfl, hbw⟩ := hrel
        by_cases hlt : k < l
        · obtain ⟨x, hx, -⟩ := HSL.out.drop hlt
          obtain ⟨e1, e2, e3⟩ := L.out.each x (List.mem_of_getElem? hx)
          obtain ⟨ab, ao, yA, yl, yc, rfl, _, cx, sx⟩ := (HSL.out.ext hbw).set hx
          have k0 : (0 : Int) ≤ (k : Int) := by omega
          have k1 : (k : Int) < (l : Int) := by omega
          have hx1 := HX.out.bel hbw
          obtain ⟨p0, p1, p2, p3, p4, p5⟩ := pcells hx1
          have hbwr := bel_trans HBW.out hbw
          have cIx := CI.out yA yl yc x wr hbwr sx e1 (by have := sx.len; omega)
          rw [e2] at cIx
          by_cases hk0 : k = 0
          · have z0 : ¬ (0 : Int) < (k : Int) := by omega
            have HK0 := Lib.hid hk0; clear hk0
            have HX := Lib.hid hx; clear hx
            have SX := Lib.hid sx; clear sx
            have E1 := Lib.hid e1; clear e1
            have E2 := Lib.hid e2; clear e2
            have E3 := Lib.hid e3; clear e3
            have CIX := Lib.hid cIx; clear cIx
            have HX1 := Lib.hid hx1; clear hx1
            have HBWR := Lib.hid hbwr; clear hbwr
            go_wp2_with fail
            go_fit CIX.out; rintro e w9 ⟨rfl, hb⟩
            have HB9 := Lib.hid (bel_trans hbw hb)
            clear hb hbw cx
            clear p0 p1 p2 p3 p4 p5
            go_wp2_with fail
            go_roundw
            case rel => exact ⟨k + 1, by omega, by go_num, HB9.out⟩
            case measure => simp [intOf]; omega
          · obtain ⟨j, rfl⟩ : ∃ j, k = j + 1 := ⟨k - 1, by omega⟩
            obtain ⟨y, hy, -⟩ := HSL.out.drop (k := j) (by omega)
            obtain ⟨ab', ao', zA, zl, zc, e, _, cy, sy⟩ := (HSL.out.ext hbw).set hy
            cases e
            have hlex := L.out.ord j y x hy hx
            have hablt := World.block_lt_of_cell? _ _ cy
            have HX := Lib.hid hx; clear hx
            have HY := Lib.hid hy; clear hy
            have SX := Lib.hid sx; clear sx
            have SY := Lib.hid sy; clear sy
            have E1 := Lib.hid e1; clear e1
            have E2 := Lib.hid e2; clear e2
            have E3 := Lib.hid e3; clear e3
            have CIX := Lib.hid cIx; clear cIx
            have HX1 := Lib.hid hx1; clear hx1
            have HBWR := Lib.hid hbwr; clear hbwr
            have HLEX := Lib.hid hlex; clear hlex
            go_wp2_with fail
            go_fit CIX.out; rintro e w9 ⟨rfl, hb⟩
            have HB9 := Lib.hid (bel_trans hbw hb)
            have cy9 := (hb.cell hablt).trans cy
            have sx9 := SX.out.ext hb
            have sy9 := SY.out.ext hb
            have cB := before_any zA zl zc yA yl yc y x w9 sy9 sx9
            rw [HLEX.out] at cB
            clear hb hbw cx cy
            clear p0 p1 p2 p3 p4 p5
            have SX9 := Lib.hid sx9; clear sx9
            have SY9 := Lib.hid sy9; clear sy9
            have CB := Lib.hid cB; clear cB
            go_wp2_with fail
            go_fit CB.out; rintro e wa ⟨rfl, hb⟩
            have HBA := Lib.hid (bel_trans HB9.out hb)
            clear hb cy9
            go_wp2_with fail
            go_roundw
            case rel => exact ⟨j + 1 + 1, by omega, by go_num, HBA.out⟩
            case measure => simp [intOf]; omega
        · have HBX := Lib.hid (bel_trans HBW.out hbw)
          clear hbw
          go_wp2_with fail
          go_fit (CA.out _); rintro e wy ⟨rfl, hb⟩
          have HBZ := Lib.hid (bel_trans HBX.out hb)
          clear hb
          go_wp2_with fail
          go_ret
          exact ⟨rfl, HBZ.out⟩
    | true =>
      simp only [Bool.true_and] at hdf
      subst hdf
      have z1 : (!(is == is)) = false := by simp
      have z2 : (is != is) = false := by simp
      have CH := Lib.hid cH; clear cH
      go_wp2_with fail
      go_fit CH.out; rintro e w8 ⟨rfl, hb⟩
      replace HX := Lib.hid (HX.out.bel hb)
      replace HBW := Lib.hid (bel_trans HBW.out hb)
      replace HSL := Lib.hid (HSL.out.ext hb)
      clear hb HM
      clear p0 p1 p2 p3 p4 p5
      go_wp2_with fail
      go_loopw [86] (fun t wr => ∃ (k : Nat), k ≤ l ∧ t = .int .i64 (k : Int) ∧ Below w8.heap.size w8 wr) (fun t _ => l - (intOf t).toNat)
      case atStart => exact ⟨0, Nat.zero_le _, rfl, Below.refl _ _⟩
      case round =>
        obtain ⟨k, hk, rfl, hbw⟩ := hrel
        by_cases hlt : k < l
        · obtain ⟨x, hx, -⟩ := HSL.out.drop hlt
          obtain ⟨e1, e2, e3⟩ := L.out.each x (List.mem_of_getElem? hx)
          obtain ⟨ab, ao, yA, yl, yc, rfl, _, cx, sx⟩ := (HSL.out.ext hbw).set hx
          have k0 : (0 : Int) ≤ (k : Int) := by omega
          have k1 : (k : Int) < (l : Int) := by omega
          have hx1 := HX.out.bel hbw
          obtain ⟨p0, p1, p2, p3, p4, p5⟩ := pcells hx1
          have hbwr := bel_trans HBW.out hbw
          have cIx := CI.out yA yl yc x wr hbwr sx e1 (by have := sx.len; omega)
          rw [e2] at cIx
          by_cases hk0 : k = 0
          · have z0 : ¬ (0 : Int) < (k : Int) := by omega
            have HK0 := Lib.hid hk0; clear hk0
            have HX := Lib.hid hx; clear hx
            have SX := Lib.hid sx; clear sx
            have E1 := Lib.hid e1; clear e1
            have E2 := Lib.hid e2; clear e2
            have E3 := Lib.hid e3; clear e3
            have CIX := Lib.hid cIx; clear cIx
            have HX1 := Lib.hid hx1; clear hx1
            have HBWR := Lib.hid hbwr; clear hbwr
            go_wp2_with fail
            go_fit CIX.out; rintro e w9 ⟨rfl, hb⟩
            have HB9 := Lib.hid (bel_trans hbw hb)
            clear hb hbw cx
            clear p0 p1 p2 p3 p4 p5
            go_wp2_with fail
            go_roundw
            case rel => exact ⟨k + 1, by omega, by go_num, HB9.out⟩
            case measure => simp [intOf]; omega
          · obtain ⟨j, rfl⟩ : ∃ j, k = j + 1 := ⟨k - 1, by omega⟩
            obtain ⟨y, hy, -⟩ := HSL.out.drop (k := j) (by omega)
            obtain ⟨ab', ao', zA, zl, zc, e, _, cy, sy⟩ := (HSL.out.ext hbw).set hy
            cases e
            have hlex := L.out.ord j y x hy hx
            have hablt := World.block_lt_of_cell? _ _ cy
            have HX := Lib.hid hx; clear hx
            have HY := Lib.hid hy; clear hy
            have SX := Lib.hid sx; clear sx
            have SY := Lib.hid sy; clear sy
            have E1 := Lib.hid e1; clear e1
            have E2 := Lib.hid e2; clear e2
            have E3 := Lib.hid e3; clear e3
            have CIX := Lib.hid cIx; clear cIx
            have HX1 := Lib.hid hx1; clear hx1
            have HBWR := Lib.hid hbwr; clear hbwr
            have HLEX := Lib.hid hlex; clear hlex
            go_wp2_with fail
            go_fit CIX.out; rintro e w9 ⟨rfl, hb⟩
            have HB9 := Lib.hid (bel_trans hbw hb)
            have cy9 := (hb.cell hablt).trans cy
            have sx9 := SX.out.ext hb
            have sy9 := SY.out.ext hb
            have cB := before_any zA zl zc yA yl yc y x w9 sy9 sx9
            rw [HLEX.out] at cB
            clear hb hbw cx cy
            clear p0 p1 p2 p3 p4 p5
            have SX9 := Lib.hid sx9; clear sx9
            have SY9 := Lib.hid sy9; clear sy9
            have CB := Lib.hid cB; clear cB
            go_wp2_with fail
            go_fit CB.out; rintro e wa ⟨rfl, hb⟩
            have HBA := Lib.hid (bel_trans HB9.out hb)
            clear hb cy9
            go_wp2_with fail
            go_roundw
            case rel => exact ⟨j + 1 + 1, by omega, by go_num, HBA.out⟩
            case measure => simp [intOf]; omega
        · have HBX := Lib.hid (bel_trans HBW.out hbw)
          clear hbw
          go_wp2_with fail
          go_fit (CA.out _); rintro e wy ⟨rfl, hb⟩
          have HBZ := Lib.hid (bel_trans HBX.out hb)
          clear hb
          go_wp2_with fail
          go_ret
          exact ⟨rfl, HBZ.out⟩
end Go.Proofs.YtfopcpmckplemaaGreat

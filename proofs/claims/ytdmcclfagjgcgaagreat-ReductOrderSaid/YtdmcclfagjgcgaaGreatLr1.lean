/- The law ReductOrder: it answers true and changes nothing that was there. Printed by mklr.py. -/
import Derived.Test.YtdmcclfagjgcgaaGreatRen
import Derived.Test.YtdmcclfagjgcgaaGreatGN
import Derived.Test.YtdmcclfagjgcgaaGreatIno
import Derived.Test.YtdmcclfagjgcgaaGreatOrl
import Derived.Test.YtdmcclfagjgcgaaGreatG6
import Derived.Test.YtdmcclfagjgcgaaGreatGL
namespace Go.Proofs.YtdmcclfagjgcgaaGreat
open Go.RowKit

set_option maxRecDepth 100000 in
set_option maxHeartbeats 4000000 in
theorem reductOrder_any (p : GProg) (nA : Option Addr) (nl nc : Nat) (sA : Option Addr) (sl sc : Nat) (rA : Option Addr) (rl rc : Nat) (mA : Option Addr) (ml mc : Nat) (b tn : Int) (w : World) (hp : ProgIn w p nA nl nc sA sl sc rA rl rc mA ml mc) (hb0 : 0 ≤ b) (hb1 : b ≤ 65535) (ht0 : 0 ≤ tn) (ht1 : tn ≤ 255) :
    Calls Tryz.prog 3 #[.agg #[.int .i64 p.n, .slice nA nl nc, .slice sA sl sc, .slice rA rl rc, .slice mA ml mc], .int .u16 b, .int .u8 tn] w fun e w' => e = .returned (.bool true) ∧ Below w.heap.size w w' := by
  have cF := fun W (hb : Below w.heap.size w W) => few_any p nA nl nc sA sl sc rA rl rc mA ml mc W (hp.ext hb)
  have cV := fun W (hb : Below w.heap.size w W) => valid_any p nA nl nc sA sl sc rA rl rc mA ml mc W (hp.ext hb)
  have cA := awake_any
  cases hf : fewB p with
  | false =>
    rw [hf] at cF
    have HF := Lib.hid hf; clear hf
    have CF := Lib.hid cF; clear cF
    have CV := Lib.hid cV; clear cV
    have CA := Lib.hid cA; clear cA
    have HP := Lib.hid hp; clear hp
    go_enter Tryz.func3, Tryz.ntmps3
    go_wp2_with fail
    go_fit (CF.out _ (bel_alloc _ _)); rintro e w1 ⟨rfl, hb1⟩
    have HB1 := Lib.hid (bel_trans (bel_alloc _ _) hb1)
    clear hb1
    go_wp2_with fail
    go_fit (CA.out _); rintro e w2 ⟨rfl, hb2⟩
    have HB2 := Lib.hid (bel_trans HB1.out hb2)
    clear hb2
    go_wp2_with fail
    go_ret
    exact ⟨rfl, HB2.out⟩
  | true =>
    rw [hf] at cF
    by_cases hv : validE p = 0
    · have hn2 := few_n hf
      have hn0 := valid_n hv
      have hrl := (few_head hf).1
      have hrh := (few_head hf).2
      rw [← hp.rules.len] at hrl
      have hrc := hp.rules.cap
      have hrm := hp.rules.max
      have hmi : incB p.n (subsetL p.n b) = true := subset_inc p.n b hn0
      have L := Lib.hid (ord_law hv hmi)
      have hmv := fun (pm : List Int) (h : PermOf pm p.n) => broken_mv (validE_is hv) h (moved_mvd h hmi)
      have hrv : ∀ pm : List Int, PermOf pm p.n → checkE (renP pm p) (movedL pm (subsetL p.n b) p.n.toNat) = 0 := fun pm h => check_of (ex_validE (renP_is (validE_is hv) h)) (moved_inc (pm := pm) (m := subsetL p.n b) hn0)
      have cS := fun W => subset_any p.n b W (by omega) hn0 hb0 hb1
      have hrlen := hp.rules.len
      have hv2 := hv
      rw [hv] at cV
      generalize subsetL p.n b = m at *
      have cB := fun A l c W (hb : Below w.heap.size w W) (h : SlIs intR W A l c m) => broken_any p nA nl nc sA sl sc rA rl rc mA ml mc A l c m W (hp.ext hb) h
      simp only [L.out.c, if_true] at cB
      generalize brokenI p m = bi at *
      have a0 := L.out.lo
      have a1 : ¬ bi < -1 := by omega
      have a2 : ¬ (rl : Int) ≤ bi := by have := L.out.hi; omega
      have HF := Lib.hid hf; clear hf
      have HV2 := Lib.hid hv2; clear hv2
      have HV := Lib.hid hv; clear hv
      have CF := Lib.hid cF; clear cF
      have CV := Lib.hid cV; clear cV
      have CA := Lib.hid cA; clear cA
      have HP := Lib.hid hp; clear hp
      have CS := Lib.hid cS; clear cS
      have CB := Lib.hid cB; clear cB
      have HMI := Lib.hid hmi; clear hmi
      have HMV := Lib.hid hmv; clear hmv
      have HRV := Lib.hid hrv; clear hrv
      have HRH := Lib.hid hrh; clear hrh
      have HRLEN := Lib.hid hrlen; clear hrlen
      go_enter Tryz.func3, Tryz.ntmps3
      go_wp2_with fail
      go_fit (CF.out _ (bel_alloc _ _)); rintro e w1 ⟨rfl, hb⟩
      have HX := Lib.hid ((Blk.new w 27 #[.int .i64 p.n, .slice nA nl nc, .slice sA sl sc, .slice rA rl rc, .slice mA ml mc]).bel hb)
      have HBW := Lib.hid (bel_trans (bel_alloc _ _) hb)
      clear hb
      obtain ⟨p0, p1, p2, p3, p4, p5⟩ := pcells HX.out
      go_wp2_with fail
      go_fit (CV.out _ HBW.out); rintro e w2 ⟨rfl, hb⟩
      replace HX := Lib.hid (HX.out.bel hb)
      replace HBW := Lib.hid (bel_trans HBW.out hb)
      clear hb
      clear p0 p1 p2 p3 p4 p5
      obtain ⟨p0, p1, p2, p3, p4, p5⟩ := pcells HX.out
      go_wp2_with fail
      go_fit (CS.out _); rintro e w3 ⟨xA, xl, xc, rfl, hm, hb⟩
      replace HX := Lib.hid (HX.out.bel hb)
      replace HBW := Lib.hid (bel_trans HBW.out hb)
      clear hb
      clear p0 p1 p2 p3 p4 p5
      obtain ⟨p0, p1, p2, p3, p4, p5⟩ := pcells HX.out
      have HM := Lib.hid hm
      clear hm
      go_wp2_with fail
      go_fit (CB.out xA xl xc _ HBW.out HM.out); rintro e w4 ⟨rfl, hb⟩
      replace HX := Lib.hid (HX.out.bel hb)
      replace HBW := Lib.hid (bel_trans HBW.out hb)
      replace HM := Lib.hid (HM.out.ext hb)
      clear hb
      clear p0 p1 p2 p3 p4 p5
      obtain ⟨p0, p1, p2, p3, p4, p5⟩ := pcells HX.out
      go_wp2_with fail
      clear p0 p1 p2 p3 p4 p5
      go_loopw [60] (fun t wr => ∃ (k : Nat), k ≤ rl ∧ t = .int .i64 (k : Int) ∧ Below w4.heap.size w4 wr) (fun t _ => rl - (intOf t).toNat)
      case atStart => exact ⟨0, Nat.zero_le _, rfl, Below.refl _ _⟩
      case round =>
        obtain ⟨k, hk, rfl, hbk⟩ := hrel
        obtain ⟨wo, rfl⟩ : ∃ wo : World, wo = wr := ⟨_, rfl⟩
        by_cases hlt : k < rl
        · obtain ⟨r, hri, -⟩ := HP.out.rules.drop hlt
          have hbwo := bel_trans HBW.out hbk
          obtain ⟨bb, off, hA, hl, hc, bA, bl, bc, wA, wl', wc, rfl, hbl2, c0, c1, c2, c3, c4, c5, g1, g2, g3, g4⟩ := (HP.out.rules.ext hbwo).rule hri
          obtain ⟨ch, hch⟩ : ∃ ch, r.choice = ch := ⟨_, rfl⟩
          rw [hch] at c0
          have k0 : (0 : Int) ≤ (k : Int) := by omega
          have k1 : (k : Int) < (rl : Int) := by omega
          have hbd := L.out.bd r (List.mem_of_getElem? hri)
          have hop := L.out.opn k r hri
          have hst := L.out.sat k r hri
          have hhl := g1.len
          have hhc := g1.cap
          have hhm := g1.max
          have hall := missB_all (j := hl) (by rw [hhl]; exact Nat.le_refl _) hbd
          have hmo := HM.out.ext hbk
          have hrin : RuleIn wo r hA hl hc bA bl bc wA wl' wc := ⟨g1, g2, g3, g4⟩
          have hba := bel_alloc wo (.cells #[.bool ch, .slice hA hl hc, .bool r.sum, .int .i64 r.bound, .slice bA bl bc, .slice wA wl' wc] 37)
          have b1 : Blk (wo.alloc (.cells #[.bool ch, .slice hA hl hc, .bool r.sum, .int .i64 r.bound, .slice bA bl bc, .slice wA wl' wc] 37)) wo.heap.size 37 #[.bool ch, .slice hA hl hc, .bool r.sum, .int .i64 r.bound, .slice bA bl bc, .slice wA wl' wc] := blk_new rfl _ _
          have cBd := bodyOut_any r _ _ _ _ _ _ _ _ _ _ _ _ m _ (hrin.ext hba) (hmo.ext hba)
          rw [hch] at cBd
          obtain ⟨zz, hzz⟩ : ∃ zz, zz = (!r.choice && bodyC r m) := ⟨_, rfl⟩
          rw [← hzz] at hall
          have q0 := b1.cell 0
          have q1 := b1.cell 1
          have hgo := g1
          clear g1 g2 g3 g4
          have hmo2 := hmo.ext hba
          have hgo2 := hgo.ext hba
          have hbl0 := bel_trans hbk hba
          have HRI := Lib.hid hri; clear hri
          have HBD := Lib.hid hbd; clear hbd
          have HOP := Lib.hid hop; clear hop
          have HST := Lib.hid hst; clear hst
          have HHL := Lib.hid hhl; clear hhl
          have HRIN := Lib.hid hrin; clear hrin
          have HGO := Lib.hid hgo; clear hgo
          have HBWO := Lib.hid hbwo; clear hbwo
          have HALL := Lib.hid hall; clear hall
          have B1 := Lib.hid b1; clear b1
          have CBD := Lib.hid cBd; clear cBd
          have HZZ := Lib.hid hzz; clear hzz
          have HMO := Lib.hid hmo; clear hmo
          have HMO2 := Lib.hid hmo2; clear hmo2
          have HGO2 := Lib.hid hgo2; clear hgo2
          have HBL0 := Lib.hid hbl0; clear hbl0
          have HBK := Lib.hid hbk; clear hbk
          have HBA := Lib.hid hba; clear hba
          have HCH := Lib.hid hch; clear hch
          cases ch with
          | true =>
            have HZ0 : Hid (zz = false) := Lib.hid (by rw [HZZ.out, HCH.out]; rfl)
            go_wp2_with fail
            clear q0 q1
            generalize wo.alloc (.cells #[.bool true, .slice hA hl hc, .bool r.sum, .int .i64 r.bound, .slice bA bl bc, .slice wA wl' wc] 37) = wl at *
            have HGL := HGO2
            have HBL := HBL0
            have HML := HMO2
            go_loopw [12, 76] (fun z t wr => ∃ (j : Nat), j ≤ hl ∧ t = .int .i64 (j : Int) ∧ z = .bool (zz && missB r m j) ∧ Below wl.heap.size wl wr) (fun _ t _ => hl - (intOf t).toNat)
            case atStart => exact ⟨0, Nat.zero_le _, rfl, by rw [HZ0.out]; simp [missB], Below.refl _ _⟩
            case round =>
              obtain ⟨j, hj, rfl, rfl, hbj⟩ := hrel
              by_cases hjl : j < hl
              · obtain ⟨a, haj, -⟩ := HGL.out.drop hjl
                obtain ⟨ab, ao, rfl, _, ca, a64⟩ := (HGL.out.ext hbj).int haj
                have j0 : (0 : Int) ≤ (j : Int) := by omega
                have j1 : (j : Int) < (hl : Int) := by omega
                have hms := missB_succ (m := m) haj
                cases hz : (zz && missB r m j) with
                | false =>
                  have hfin : (zz && missB r m (j + 1)) = false := by rw [hms, ← Bool.and_assoc, hz, Bool.false_and]
                  have HAJ := Lib.hid haj; clear haj
                  have A64 := Lib.hid a64; clear a64
                  have HMS := Lib.hid hms; clear hms
                  have HZ := Lib.hid hz; clear hz
                  have HFIN := Lib.hid hfin; clear hfin
                  have HBJ := Lib.hid hbj; clear hbj
                  go_wp2_with fail
                  go_roundw
                  case rel => exact ⟨j + 1, by omega, by go_num, by rw [HFIN.out], HBJ.out⟩
                  case measure => simp [intOf]; omega
                | true =>
                  have cI := in1_any a xA xl xc m wr a64 (HML.out.ext hbj)
                  have hba := bel_trans hbj (bel_alloc wr (.cells #[.int .i64 a] 3))
                  by_cases ham : a ∈ m
                  · rw [decide_eq_true ham] at cI hms
                    have hfin : (zz && missB r m (j + 1)) = false := by rw [hms]; simp
                    have HAJ := Lib.hid haj; clear haj
                    have A64 := Lib.hid a64; clear a64
                    have HMS := Lib.hid hms; clear hms
                    have HZ := Lib.hid hz; clear hz
                    have HFIN := Lib.hid hfin; clear hfin
                    have HBJ := Lib.hid hbj; clear hbj
                    have CI := Lib.hid cI; clear cI
                    have HBA := Lib.hid hba; clear hba
                    have HAM := Lib.hid ham; clear ham
                    go_wp2_with fail
                    go_fit CI.out; rintro e wz ⟨rfl, rfl⟩
                    go_wp2_with fail
                    go_roundw
                    case rel => exact ⟨j + 1, by omega, by go_num, by rw [HFIN.out], HBA.out⟩
                    case measure => simp [intOf]; omega
                  · rw [decide_eq_false ham] at cI hms
                    have hfin : (zz && missB r m (j + 1)) = true := by rw [hms, Bool.not_false, Bool.and_true]; exact hz
                    have HAJ := Lib.hid haj; clear haj
                    have A64 := Lib.hid a64; clear a64
                    have HMS := Lib.hid hms; clear hms
                    have HZ := Lib.hid hz; clear hz
                    have HFIN := Lib.hid hfin; clear hfin
                    have HBJ := Lib.hid hbj; clear hbj
                    have CI := Lib.hid cI; clear cI
                    have HBA := Lib.hid hba; clear hba
                    have HAM := Lib.hid ham; clear ham
                    go_wp2_with fail
                    go_fit CI.out; rintro e wz ⟨rfl, rfl⟩
                    go_wp2_with fail
                    go_roundw
                    case rel => exact ⟨j + 1, by omega, by go_num, by rw [HFIN.out], HBA.out⟩
                    case measure => simp [intOf]; omega
              · have hjl2 : j = hl := by omega
                subst hjl2
                have hbe := bel_trans HBL.out hbj
                rw [HALL.out]
                cases hs : satB r m with
                | true =>
                  have t2 : ((k : Int) == bi) = false := by have := HST.out hs; simpa using this
                  clear hjl hj
                  have HS := Lib.hid hs; clear hs
                  have HBE := Lib.hid hbe; clear hbe
                  have HBJ := Lib.hid hbj; clear hbj
                  go_wp2_with fail
                  go_roundw
                  case rel => exact ⟨k + 1, by omega, by go_num, HBE.out⟩
                  case measure => simp [intOf]; omega
                | false =>
                  obtain ⟨u1, u2⟩ := HOP.out hs
                  have t2 : ¬ bi < 0 := by omega
                  have t3 : ¬ (k : Int) < bi := by omega
                  clear hjl hj
                  have HS := Lib.hid hs; clear hs
                  have HBE := Lib.hid hbe; clear hbe
                  have HBJ := Lib.hid hbj; clear hbj
                  go_wp2_with fail
                  go_roundw
                  case rel => exact ⟨k + 1, by omega, by go_num, HBE.out⟩
                  case measure => simp [intOf]; omega
          | false =>
            go_wp2_with (refine wpList_load_row (by rfl) 37 _ (by rfl) wo.heap.size (by rfl) 37 #[.bool false, .slice hA hl hc, .bool r.sum, .int .i64 r.bound, .slice bA bl bc, .slice wA wl' wc] (0, 0) _ B1.out Tryz.underlying37 rfl info_rule ?_)
            go_fit CBD.out; rintro e wl ⟨rfl, hb5⟩
            have HZ0 : Hid (zz = bodyC r m) := Lib.hid (by rw [HZZ.out, HCH.out]; rfl)
            have hgl := HGO2.out.ext hb5
            have hml := HMO2.out.ext hb5
            have hbl := bel_trans HBL0.out hb5
            clear q0 q1
            have q1 : wl.cell? ⟨wo.heap.size, 1, none⟩ = some (.slice hA hl hc) := (B1.out.bel hb5).cell 1
            have HGL := Lib.hid hgl; clear hgl
            have HML := Lib.hid hml; clear hml
            have HBL := Lib.hid hbl; clear hbl
            clear hb5
            go_wp2_with fail
            go_loopw [12, 76] (fun z t wr => ∃ (j : Nat), j ≤ hl ∧ t = .int .i64 (j : Int) ∧ z = .bool (zz && missB r m j) ∧ Below wl.heap.size wl wr) (fun _ t _ => hl - (intOf t).toNat)
            case atStart => exact ⟨0, Nat.zero_le _, rfl, by rw [HZ0.out]; simp [missB], Below.refl _ _⟩
            case round =>
              obtain ⟨j, hj, rfl, rfl, hbj⟩ := hrel
              by_cases hjl : j < hl
              · obtain ⟨a, haj, -⟩ := HGL.out.drop hjl
                obtain ⟨ab, ao, rfl, _, ca, a64⟩ := (HGL.out.ext hbj).int haj
                have j0 : (0 : Int) ≤ (j : Int) := by omega
                have j1 : (j : Int) < (hl : Int) := by omega
                have hms := missB_succ (m := m) haj
                cases hz : (zz && missB r m j) with
                | false =>
                  have hfin : (zz && missB r m (j + 1)) = false := by rw [hms, ← Bool.and_assoc, hz, Bool.false_and]
                  have HAJ := Lib.hid haj; clear haj
                  have A64 := Lib.hid a64; clear a64
                  have HMS := Lib.hid hms; clear hms
                  have HZ := Lib.hid hz; clear hz
                  have HFIN := Lib.hid hfin; clear hfin
                  have HBJ := Lib.hid hbj; clear hbj
                  go_wp2_with fail
                  go_roundw
                  case rel => exact ⟨j + 1, by omega, by go_num, by rw [HFIN.out], HBJ.out⟩
                  case measure => simp [intOf]; omega
                | true =>
                  have cI := in1_any a xA xl xc m wr a64 (HML.out.ext hbj)
                  have hba := bel_trans hbj (bel_alloc wr (.cells #[.int .i64 a] 3))
                  by_cases ham : a ∈ m
                  · rw [decide_eq_true ham] at cI hms
                    have hfin : (zz && missB r m (j + 1)) = false := by rw [hms]; simp
                    have HAJ := Lib.hid haj; clear haj
                    have A64 := Lib.hid a64; clear a64
                    have HMS := Lib.hid hms; clear hms
                    have HZ := Lib.hid hz; clear hz
                    have HFIN := Lib.hid hfin; clear hfin
                    have HBJ := Lib.hid hbj; clear hbj
                    have CI := Lib.hid cI; clear cI
                    have HBA := Lib.hid hba; clear hba
                    have HAM := Lib.hid ham; clear ham
                    go_wp2_with fail
                    go_fit CI.out; rintro e wz ⟨rfl, rfl⟩
                    go_wp2_with fail
                    go_roundw
                    case rel => exact ⟨j + 1, by omega, by go_num, by rw [HFIN.out], HBA.out⟩
                    case measure => simp [intOf]; omega
                  · rw [decide_eq_false ham] at cI hms
                    have hfin : (zz && missB r m (j + 1)) = true := by rw [hms, Bool.not_false, Bool.and_true]; exact hz
                    have HAJ := Lib.hid haj; clear haj
                    have A64 := Lib.hid a64; clear a64
                    have HMS := Lib.hid hms; clear hms
                    have HZ := Lib.hid hz; clear hz
                    have HFIN := Lib.hid hfin; clear hfin
                    have HBJ := Lib.hid hbj; clear hbj
                    have CI := Lib.hid cI; clear cI
                    have HBA := Lib.hid hba; clear hba
                    have HAM := Lib.hid ham; clear ham
                    go_wp2_with fail
                    go_fit CI.out; rintro e wz ⟨rfl, rfl⟩
                    go_wp2_with fail
                    go_roundw
                    case rel => exact ⟨j + 1, by omega, by go_num, by rw [HFIN.out], HBA.out⟩
                    case measure => simp [intOf]; omega
              · have hjl2 : j = hl := by omega
                subst hjl2
                have hbe := bel_trans HBL.out hbj
                rw [HALL.out]
                cases hs : satB r m with
                | true =>
                  have t2 : ((k : Int) == bi) = false := by have := HST.out hs; simpa using this
                  clear hjl hj
                  have HS := Lib.hid hs; clear hs
                  have HBE := Lib.hid hbe; clear hbe
                  have HBJ := Lib.hid hbj; clear hbj
                  go_wp2_with fail
                  go_roundw
                  case rel => exact ⟨k + 1, by omega, by go_num, HBE.out⟩
                  case measure => simp [intOf]; omega
                | false =>
                  obtain ⟨u1, u2⟩ := HOP.out hs
                  have t2 : ¬ bi < 0 := by omega
                  have t3 : ¬ (k : Int) < bi := by omega
                  clear hjl hj
                  have HS := Lib.hid hs; clear hs
                  have HBE := Lib.hid hbe; clear hbe
                  have HBJ := Lib.hid hbj; clear hbj
                  go_wp2_with fail
                  go_roundw
                  case rel => exact ⟨k + 1, by omega, by go_num, HBE.out⟩
                  case measure => simp [intOf]; omega
        · have hbe := bel_trans HBW.out hbk
          have hxe := HX.out.bel hbk
          have hme := HM.out.ext hbk
          obtain ⟨wp, rfl⟩ : ∃ wp : World, wp = wo := ⟨_, rfl⟩
          obtain ⟨p0, p1, p2, p3, p4, p5⟩ := pcells hxe
          clear hbk HBW HX HM
          have HBW := Lib.hid hbe
          have HX := Lib.hid hxe
          have HM := Lib.hid hme
          clear hbe hxe hme
          by_cases hz : p.n = 0
          · have t2 : (p.n == 0) = true := by simpa using hz
            have HZ := Lib.hid hz; clear hz
            go_wp2_with fail
            go_fit (CA.out _); rintro e wy ⟨rfl, hb⟩
            have HBZ := Lib.hid (bel_trans HBW.out hb)
            clear hb
            go_wp2_with fail
            go_ret
            exact ⟨rfl, HBZ.out⟩
          · have t2 : (p.n == 0) = false := by simpa using hz
            have hnpos : 0 < p.n := by omega
            have HZ := Lib.hid hz; clear hz
            go_wp2_with fail
            clear p0 p1 p2 p3 p4 p5
            go_loopw [15, 115] (fun v t wr => ∃ (k : Nat), (k : Int) ≤ p.n ∧ t = .int .i64 (k : Int) ∧ OwnI wr wp.heap.size v k (rotL p.n tn k) ∧ Below wp.heap.size wp wr) (fun _ t _ => p.n.toNat - (intOf t).toNat)
            case atStart => exact ⟨0, by omega, rfl, OwnI.nil _ _, Below.refl _ _⟩
            case round =>
              obtain ⟨k, hk, rfl, ho, hb⟩ := hrel
              have hsz := hb.size
              have hxr := HX.out.bel hb
              obtain ⟨p0, p1, p2, p3, p4, p5⟩ := pcells hxr
              by_cases hlt : (k : Int) < p.n
              · have k0 : (0 : Int) ≤ (k : Int) := by omega
                have e1 : IntKind.i64.wrap ((k : Int) + tn) = (k : Int) + tn := IntWalk.i64_in _ (by omega)
                have m0 : 0 ≤ ((k : Int) + tn) % p.n := Int.emod_nonneg _ (by omega)
                have m1 : ((k : Int) + tn) % p.n < p.n := Int.emod_lt_of_pos _ (by omega)
                obtain ⟨v', w5, hrun, hown5, hg5, hat5⟩ := app1 ho (1 + ((k : Int) + tn) % p.n) (by omega) hsz 23
                have hb5 := bel_grown hb hg5 hsz (fun q hq => (ho.2.lt q hq).1)
                rw [← rotL_succ] at hown5
                have HXR := Lib.hid hxr; clear hxr
                have HO := Lib.hid ho; clear ho
                have HB := Lib.hid hb; clear hb
                have HRUN := Lib.hid hrun; clear hrun
                have HOWN5 := Lib.hid hown5; clear hown5
                have HG5 := Lib.hid hg5; clear hg5
                have HAT5 := Lib.hid hat5; clear hat5
                have HB5 := Lib.hid hb5; clear hb5
                go_wp2_with (at_builtin; refine wpList_append_run rfl _ _ _ rfl _ _ rfl rfl _ _ HRUN.out ?_)
                go_roundw
                case rel => exact ⟨k + 1, by omega, by go_num, HOWN5.out, HB5.out⟩
                case measure => simp [intOf]; omega
              · have hkN : k = p.n.toNat := by omega
                subst hkN
                have hpmI := rotI_perm (n := p.n) (t := tn) (by omega)
                have hpl := hpmI.len
                obtain ⟨qA, qc, rfl, hqs⟩ := ho.sl (by omega) (rot_64 (by omega) (by omega))
                obtain ⟨pm, hpm⟩ : ∃ pm, pm = rotL p.n tn p.n.toNat := ⟨_, rfl⟩
                rw [← hpm] at hqs hpmI hpl
                obtain ⟨ql, hqlE⟩ : ∃ ql, ql = p.n.toNat := ⟨_, rfl⟩
                rw [← hqlE] at hqs ⊢
                have hqlN : (ql : Int) = p.n := by omega
                have hqpl : pm.length = ql := by omega
                have hql12 : ql ≤ 12 := by omega
                have HQLE := Lib.hid hqlE; clear hqlE
                have HQLN := Lib.hid hqlN; clear hqlN
                have hqc := hqs.cap
                have hqm := hqs.max
                have hbX := bel_trans HBW.out hb
                clear ho hpm
                obtain ⟨wm, rfl⟩ : ∃ wm : World, wm = wr := ⟨_, rfl⟩
                have HBM := Lib.hid hb
                clear hb hsz
                have HQS := Lib.hid hqs; clear hqs
                have HPMI := Lib.hid hpmI; clear hpmI
                have HBX := Lib.hid hbX; clear hbX
                have HXR := Lib.hid hxr; clear hxr
                go_wp2_with fail
                clear p0 p1 p2 p3 p4 p5
                clear HX
                have HX := HXR
                go_loopw [16, 18] (fun v t wr => ∃ (k lv : Nat), (k : Int) ≤ p.n ∧ t = .int .i64 ((k : Int) + 1) ∧ OwnI wr wm.heap.size v lv (movedU pm m k) ∧ Below wm.heap.size wm wr) (fun _ t _ => p.n.toNat + 1 - (intOf t).toNat)
                case atStart => exact ⟨0, 0, by omega, rfl, OwnI.nil _ _, Below.refl _ _⟩
                case round =>
                  obtain ⟨k, lv, hk, rfl, ho, hb⟩ := hrel
                  obtain ⟨wo, rfl⟩ : ∃ wo : World, wo = wr := ⟨_, rfl⟩
                  have hsz := hb.size
                  have hxr := HX.out.bel hb
                  obtain ⟨p0, p1, p2, p3, p4, p5⟩ := pcells hxr
                  by_cases hlt : (k : Int) < p.n
                  · have j1 : ((k : Int) + 1) ≤ p.n := by omega
                    have hqs := HQS.out.ext hb
                    have HXR := Lib.hid hxr; clear hxr
                    go_wp2_with fail
                    go_loopw [16, 138] (fun v t wr => ∃ (j lv : Nat), j ≤ ql ∧ t = .int .i64 (j : Int) ∧ OwnI wr wm.heap.size v lv (movedV pm m k j) ∧ Below wm.heap.size wm wr) (fun _ t _ => ql - (intOf t).toNat)
                    case atStart => exact ⟨0, lv, by omega, rfl, by rw [movedV_zero]; exact ho, hb⟩
                    case round =>
                      clear ho hb hsz hqs lv
                      obtain ⟨j, lv, hj, rfl, ho, hb⟩ := hrel
                      have hsz := hb.size
                      by_cases hjl : j < ql
                      · obtain ⟨y, hy, -⟩ := HQS.out.drop hjl
                        obtain ⟨yb, yo, rfl, _, cy, y64⟩ := (HQS.out.ext hb).int hy
                        have j0 : (0 : Int) ≤ (j : Int) := by omega
                        have j2 : (j : Int) < (ql : Int) := by omega
                        have hgd : pm.getD j 0 = y := by rw [List.getD_eq_getElem?_getD, hy]; rfl
                        have hvs := movedV_succ pm m k j
                        have hlv := ho.len
                        have hvl := movedV_len pm m k j
                        have z1 : IntKind.i64.wrap ((j : Int) + 1) = (j : Int) + 1 := IntWalk.i64_in _ (by omega)
                        by_cases hya : y = (k : Int) + 1
                        · have t1 : (y == (k : Int) + 1) = true := by simpa using hya
                          have hmr := HM.out.ext (bel_trans HBM.out hb)
                          have cI := in1_any ((j : Int) + 1) xA xl xc m wr (by unfold I64; omega) hmr
                          by_cases hjm : (j : Int) + 1 ∈ m
                          · rw [decide_eq_true hjm] at cI
                            have hvf : mvF pm m ((k : Int) + 1) j = true := by unfold mvF; rw [hgd, decide_eq_true hya, decide_eq_true hjm]; rfl
                            rw [hvf, if_pos rfl] at hvs
                            have hb6 := bel_trans hb (bel_alloc wr (.cells #[.int .i64 ((j : Int) + 1)] 3))
                            have ho6 := ho.bel (bel_alloc wr (.cells #[.int .i64 ((j : Int) + 1)] 3))
                            obtain ⟨w6, hw6⟩ : ∃ w6, w6 = wr.alloc (.cells #[.int .i64 ((j : Int) + 1)] 3) := ⟨_, rfl⟩
                            rw [← hw6] at hb6 ho6
                            obtain ⟨v', w7, hrun, hown7, hg7, hat7⟩ := app1 ho6 ((k : Int) + 1) (by omega) hb6.size 23
                            have hb7 := bel_grown hb6 hg7 hb6.size (fun q hq => (ho6.2.lt q hq).1)
                            rw [← hvs] at hown7
                            have HY := Lib.hid hy; clear hy
                            have Y64 := Lib.hid y64; clear y64
                            have HGD := Lib.hid hgd; clear hgd
                            have HVS := Lib.hid hvs; clear hvs
                            have HMR := Lib.hid hmr; clear hmr
                            have CI := Lib.hid cI; clear cI
                            have HVF := Lib.hid hvf; clear hvf
                            have HB6 := Lib.hid hb6; clear hb6
                            have HO6 := Lib.hid ho6; clear ho6
                            have HRUN := Lib.hid hrun; clear hrun
                            have HOWN7 := Lib.hid hown7; clear hown7
                            have HG7 := Lib.hid hg7; clear hg7
                            have HAT7 := Lib.hid hat7; clear hat7
                            have HB7 := Lib.hid hb7; clear hb7
                            have HO := Lib.hid ho; clear ho
                            have HB := Lib.hid hb; clear hb
                            have HJM := Lib.hid hjm; clear hjm
                            have HYA := Lib.hid hya; clear hya
                            have HW6 := Lib.hid hw6; clear hw6
                            have HLV := Lib.hid hlv; clear hlv
                            go_wp2_with fail
                            go_fit CI.out; rintro e wz ⟨rfl, rfl⟩
                            rw [← HW6.out]
                            go_wp2_with (at_builtin; refine wpList_append_run rfl _ _ _ rfl _ _ rfl rfl _ _ HRUN.out ?_)
                            go_roundw
                            case rel => exact ⟨j + 1, lv + 1, by omega, by go_num, HOWN7.out, HB7.out⟩
                            case measure => simp [intOf]; omega
                          · rw [decide_eq_false hjm] at cI
                            have hvf : mvF pm m ((k : Int) + 1) j = false := by unfold mvF; rw [decide_eq_false hjm, Bool.and_false]
                            rw [hvf] at hvs
                            simp only [Bool.false_eq_true, if_false] at hvs
                            have hb6 := bel_trans hb (bel_alloc wr (.cells #[.int .i64 ((j : Int) + 1)] 3))
                            have ho6 := ho.bel (bel_alloc wr (.cells #[.int .i64 ((j : Int) + 1)] 3))
                            rw [← hvs] at ho6
                            have HY := Lib.hid hy; clear hy
                            have Y64 := Lib.hid y64; clear y64
                            have HGD := Lib.hid hgd; clear hgd
                            have HVS := Lib.hid hvs; clear hvs
                            have HMR := Lib.hid hmr; clear hmr
                            have CI := Lib.hid cI; clear cI
                            have HVF := Lib.hid hvf; clear hvf
                            have HB6 := Lib.hid hb6; clear hb6
                            have HO6 := Lib.hid ho6; clear ho6
                            have HO := Lib.hid ho; clear ho
                            have HB := Lib.hid hb; clear hb
                            have HJM := Lib.hid hjm; clear hjm
                            have HYA := Lib.hid hya; clear hya
                            have HLV := Lib.hid hlv; clear hlv
                            go_wp2_with fail
                            go_fit CI.out; rintro e wz ⟨rfl, rfl⟩
                            go_wp2_with fail
                            go_roundw
                            case rel => exact ⟨j + 1, lv, by omega, by go_num, HO6.out, HB6.out⟩
                            case measure => simp [intOf]; omega
                        · have t1 : (y == (k : Int) + 1) = false := by simpa using hya
                          have hvf : mvF pm m ((k : Int) + 1) j = false := by unfold mvF; rw [hgd, decide_eq_false hya, Bool.false_and]
                          rw [hvf] at hvs
                          simp only [Bool.false_eq_true, if_false] at hvs
                          rw [← hvs] at ho
                          have HY := Lib.hid hy; clear hy
                          have Y64 := Lib.hid y64; clear y64
                          have HGD := Lib.hid hgd; clear hgd
                          have HVS := Lib.hid hvs; clear hvs
                          have HVF := Lib.hid hvf; clear hvf
                          have HO := Lib.hid ho; clear ho
                          have HB := Lib.hid hb; clear hb
                          have HYA := Lib.hid hya; clear hya
                          have HLV := Lib.hid hlv; clear hlv
                          go_wp2_with fail
                          go_roundw
                          case rel => exact ⟨j + 1, lv, by omega, by go_num, HO.out, HB.out⟩
                          case measure => simp [intOf]; omega
                      · have hjq : j = pm.length := by omega
                        rw [hjq, movedV_all HPMI.out m k] at ho
                        have HO := Lib.hid ho; clear ho
                        have HB := Lib.hid hb; clear hb
                        have HJQ := Lib.hid hjq; clear hjq
                        go_wp2_with fail
                        go_roundw
                        case rel => exact ⟨k + 1, lv, by omega, by go_num, HO.out, HB.out⟩
                        case measure => simp [intOf]; omega
                  · have hkN : k = p.n.toNat := by omega
                    have j1 : ¬ ((k : Int) + 1) ≤ p.n := by omega
                    subst hkN
                    rw [movedU_all] at ho
                    have hlv := ho.len
                    have hmvL := movedV_len pm m p.n.toNat 0
                    rw [movedV_zero, movedU_all] at hmvL
                    obtain ⟨vA, vc, rfl, hvs⟩ := ho.sl (by omega) (fun x hx => movedV_64 pm m (k := p.n.toNat) (by omega) 0 x (by rw [movedV_zero, movedU_all]; exact hx))
                    have hvc := hvs.cap
                    have hvm := hvs.max
                    have hlv12 : lv ≤ 12 := by omega
                    have HLV := Lib.hid hlv; clear hlv
                    have HMVL := Lib.hid hmvL; clear hmvL
                    have hbY := bel_trans HBX.out hb
                    have cR := rename_any p nA nl nc sA sl sc rA rl rc mA ml mc qA ql qc pm wo (HP.out.ext hbY) HV2.out (HQS.out.ext hb) HPMI.out
                    have HVS := Lib.hid hvs; clear hvs
                    have HBY := Lib.hid hbY; clear hbY
                    have CR := Lib.hid cR; clear cR
                    have HB := Lib.hid hb; clear hb
                    have HO := Lib.hid ho; clear ho
                    have HXR := Lib.hid hxr; clear hxr
                    go_wp2_with fail
                    go_fit CR.out; rintro e w6 ⟨nA', nl', nc', sA', sl', sc', rA', rl', rc', mA', ml', mc', rfl, hpq, hb6⟩
                    have ha := bel_alloc w6 (.cells #[.int .i64 p.n, .slice nA' nl' nc', .slice sA' sl' sc', .slice rA' rl' rc', .slice mA' ml' mc'] 27)
                    have b7 : Blk (w6.alloc (.cells #[.int .i64 p.n, .slice nA' nl' nc', .slice sA' sl' sc', .slice rA' rl' rc', .slice mA' ml' mc'] 27)) w6.heap.size 27 #[.int .i64 p.n, .slice nA' nl' nc', .slice sA' sl' sc', .slice rA' rl' rc', .slice mA' ml' mc'] := blk_new rfl _ _
                    have cB2 := broken_any (renP pm p) nA' nl' nc' sA' sl' sc' rA' rl' rc' mA' ml' mc' vA lv vc (movedL pm m p.n.toNat) _ (hpq.ext ha) ((HVS.out.ext hb6).ext ha)
                    simp only [HRV.out pm HPMI.out, if_true, HMV.out pm HPMI.out] at cB2
                    change Calls _ _ #[.agg #[.int .i64 p.n, .slice nA' nl' nc', .slice sA' sl' sc', .slice rA' rl' rc', .slice mA' ml' mc'], .slice vA lv vc] _ _ at cB2
                    have hbz := bel_trans (bel_trans HBY.out hb6) ha
                    clear hb6 ha
                    have HPQ := Lib.hid hpq; clear hpq
                    have B7 := Lib.hid b7; clear b7
                    have CB2 := Lib.hid cB2; clear cB2
                    have HBZ := Lib.hid hbz; clear hbz
                    go_wp2_with (refine wpList_load_row (by rfl) 27 _ (by rfl) w6.heap.size (by rfl) 27 #[.int .i64 p.n, .slice nA' nl' nc', .slice sA' sl' sc', .slice rA' rl' rc', .slice mA' ml' mc'] (0, 0) _ B7.out Tryz.underlying27 rfl info_prog' ?_)
                    go_fit CB2.out; rintro e w8 ⟨rfl, hb8⟩
                    have HBR := Lib.hid (bel_trans HBZ.out hb8)
                    clear hb8
                    go_wp2_with fail
                    go_fit (CA.out _); rintro e w9 ⟨rfl, hb9⟩
                    have HBS := Lib.hid (bel_trans HBR.out hb9)
                    clear hb9
                    go_wp2_with fail
                    go_ret
                    exact ⟨rfl, HBS.out⟩
    · generalize validE p = v at *
      have q1 : (v != 0) = true := by simpa using hv
      have HF := Lib.hid hf; clear hf
      have HV := Lib.hid hv; clear hv
      have CF := Lib.hid cF; clear cF
      have CV := Lib.hid cV; clear cV
      have CA := Lib.hid cA; clear cA
      have HP := Lib.hid hp; clear hp
      go_enter Tryz.func3, Tryz.ntmps3
      go_wp2_with fail
      go_fit (CF.out _ (bel_alloc _ _)); rintro e w1 ⟨rfl, hb⟩
      have HX := Lib.hid ((Blk.new w 27 #[.int .i64 p.n, .slice nA nl nc, .slice sA sl sc, .slice rA rl rc, .slice mA ml mc]).bel hb)
      have HBW := Lib.hid (bel_trans (bel_alloc _ _) hb)
      clear hb
      obtain ⟨p0, p1, p2, p3, p4, p5⟩ := pcells HX.out
      go_wp2_with fail
      go_fit (CV.out _ HBW.out); rintro e w2 ⟨rfl, hb⟩
      replace HX := Lib.hid (HX.out.bel hb)
      replace HBW := Lib.hid (bel_trans HBW.out hb)
      clear hb
      clear p0 p1 p2 p3 p4 p5
      go_wp2_with fail
      go_fit (CA.out _); rintro e wy ⟨rfl, hb⟩
      have HBZ := Lib.hid (bel_trans HBW.out hb)
      clear hb
      go_wp2_with fail
      go_ret
      exact ⟨rfl, HBZ.out⟩
end Go.Proofs.YtdmcclfagjgcgaaGreat

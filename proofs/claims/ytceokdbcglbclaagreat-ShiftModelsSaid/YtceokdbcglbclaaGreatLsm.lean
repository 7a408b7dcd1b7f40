/- The law ShiftModels: it answers true and changes nothing that was there. -/
import Derived.Test.YtceokdbcglbclaaGreatGSd
import Derived.Test.YtceokdbcglbclaaGreatGSb
import Derived.Test.YtceokdbcglbclaaGreatG4
import Derived.Test.YtceokdbcglbclaaGreatG5
namespace Go.Proofs.YtceokdbcglbclaaGreat
open Go.RowKit
theorem few_small {p : GProg} (hf : fewB p = true) : p.n ≤ 12 ∧ p.rules.length ≤ 16 := by
 unfold fewB at hf
 simp only [Bool.and_eq_true,decide_eq_true_eq] at hf
 refine ⟨hf.1.1.1.1.1,?_⟩
 omega
set_option maxRecDepth 100000 in
set_option maxHeartbeats 8000000 in
theorem shiftModels_any (p : GProg) (nA : Option Addr) (nl nc : Nat) (sA : Option Addr) (sl sc : Nat) (rA : Option Addr) (rl rc : Nat) (mA : Option Addr) (ml mc : Nat) (a : Int) (w : World) (hp : ProgIn w p nA nl nc sA sl sc rA rl rc mA ml mc) (a0 : 0 ≤ a) (a1 : a ≤ 65535) :
  Calls Tryz.prog 5 #[.agg #[.int .i64 p.n,.slice nA nl nc,.slice sA sl sc,.slice rA rl rc,.slice mA ml mc],.int .u16 a] w fun e w' => e = .returned (.bool true) ∧ Below w.heap.size w w' := by
 have cF := fun W (hb : Below w.heap.size w W) => few_any p nA nl nc sA sl sc rA rl rc mA ml mc W (hp.ext hb)
 have cV := fun W (hb : Below w.heap.size w W) => valid_any p nA nl nc sA sl sc rA rl rc mA ml mc W (hp.ext hb)
 have cA := awake22_any
 have bW := bel_alloc w (.cells #[.int .i64 p.n,.slice nA nl nc,.slice sA sl sc,.slice rA rl rc,.slice mA ml mc] 27)
 have bP : Blk (w.alloc (.cells #[.int .i64 p.n,.slice nA nl nc,.slice sA sl sc,.slice rA rl rc,.slice mA ml mc] 27)) w.heap.size 27 #[.int .i64 p.n,.slice nA nl nc,.slice sA sl sc,.slice rA rl rc,.slice mA ml mc] := blk_new rfl _ _
 cases hf : fewB p with
 | false =>
  rw [hf] at cF
  have HP := Lib.hid hp; clear hp
  have CF := Lib.hid cF; clear cF
  have CV := Lib.hid cV; clear cV
  have CA := Lib.hid cA; clear cA
  have BW := Lib.hid bW; clear bW
  have BP := Lib.hid bP; clear bP
  have HF := Lib.hid hf; clear hf
  go_enter Tryz.func5,Tryz.ntmps5
  go_wp2_with fail
  go_fit (CF.out _ BW.out); rintro e w1 ⟨rfl,hb1⟩
  have HBL := Lib.hid (bel_trans BW.out hb1)
  clear hb1
  go_wp2_with fail
  go_fit (CA.out _); rintro e wz ⟨rfl,hbz⟩
  have HBZ := Lib.hid (bel_trans HBL.out hbz)
  clear hbz
  go_wp2_with fail
  go_ret
  exact ⟨rfl,HBZ.out⟩
 | true =>
  rw [hf] at cF
  by_cases hv : validE p = 0
  ·rw [hv] at cV
   have hpi := validE_is hv
   have hn := namedB_n hpi.named
   have hfs := few_small hf
   have hso := sf_small hpi hfs.1 (by omega)
   have hn0 := hn.1
   have hn4 := hn.2
   have cM := subset_any p.n a
   obtain ⟨ms,hms⟩ : ∃ ms,ms = subsetL p.n a := ⟨_,rfl⟩
   have hinc : incB p.n ms = true := by rw [hms]; exact subset_inc p.n a hn.1
   rw [← hms] at cM
   cases hfr : freeB p with
   | false =>
    have hse : shiftE (freeB p) p = 220 := by unfold shiftE; rw [if_neg (by simp [hv]),hfr]; rfl
    have cS := fun W (hb : Below w.heap.size w W) => shift_err p nA nl nc sA sl sc rA rl rc mA ml mc W (hp.ext hb) (by rw [hse]; decide)
    have cL := fun A l c W (hb : Below w.heap.size w W) => lift_err1 p nA nl nc sA sl sc rA rl rc mA ml mc A l c ms W (hp.ext hb) (by rw [hse]; decide)
    rw [hse] at cS cL
    have HP := Lib.hid hp; clear hp
    have CF := Lib.hid cF; clear cF
    have CV := Lib.hid cV; clear cV
    have CA := Lib.hid cA; clear cA
    have BW := Lib.hid bW; clear bW
    have BP := Lib.hid bP; clear bP
    have HF := Lib.hid hf; clear hf
    have HV := Lib.hid hv; clear hv
    have HPI := Lib.hid hpi; clear hpi
    have HFS := Lib.hid hfs; clear hfs
    have HSO := Lib.hid hso; clear hso
    have HMS := Lib.hid hms; clear hms
    have HINC := Lib.hid hinc; clear hinc
    have CS := Lib.hid cS; clear cS
    have CL := Lib.hid cL; clear cL
    have HFR := Lib.hid hfr; clear hfr
    have HSE := Lib.hid hse; clear hse
    have CM := Lib.hid cM; clear cM
    have HN := Lib.hid hn; clear hn
    go_enter Tryz.func5,Tryz.ntmps5
    go_wp2_with fail
    go_fit (CF.out _ BW.out); rintro e w1 ⟨rfl,hb1⟩
    have hbp := BP.out.bel hb1
    have HBL := Lib.hid (bel_trans BW.out hb1)
    clear hb1
    obtain ⟨p0,p1,p2,p3,p4,p5⟩ := pcells hbp
    have HBP := Lib.hid hbp; clear hbp
    go_wp2_with fail
    clear p0 p1 p2 p3 p4 p5
    go_fit (CV.out _ HBL.out); rintro e w2 ⟨rfl,hb⟩
    have hbp := HBP.out.bel hb
    have HBL := Lib.hid (bel_trans HBL.out hb)
    clear hb HBP
    obtain ⟨p0,p1,p2,p3,p4,p5⟩ := pcells hbp
    have HBP := Lib.hid hbp; clear hbp
    go_wp2_with fail
    clear p0 p1 p2 p3 p4 p5
    go_fit (CS.out _ HBL.out); rintro e w3 ⟨rfl,hb⟩
    have hb' := bel_trans hb (bel_alloc w3 (.cells #[.int .i64 0,.slice none 0 0,.slice none 0 0,.slice none 0 0,.slice none 0 0] 27))
    have hbp := HBP.out.bel hb'
    have HBL := Lib.hid (bel_trans HBL.out hb')
    clear hb hb' HBP
    obtain ⟨p0,p1,p2,p3,p4,p5⟩ := pcells hbp
    have HBP := Lib.hid hbp; clear hbp
    go_wp2_with fail
    clear p0 p1 p2 p3 p4 p5
    generalize w3.alloc (.cells #[.int .i64 0,.slice none 0 0,.slice none 0 0,.slice none 0 0,.slice none 0 0] 27) = w3 at *
    go_fit (CM.out w3 hn4 hn0 a0 a1); rintro e w4 ⟨xA,xl,xc,rfl,hx,hb⟩
    have hbp := HBP.out.bel hb
    have HBL := Lib.hid (bel_trans HBL.out hb)
    clear hb HBP
    obtain ⟨p0,p1,p2,p3,p4,p5⟩ := pcells hbp
    have HBP := Lib.hid hbp; clear hbp
    have HX := Lib.hid hx; clear hx
    go_wp2_with fail
    clear p0 p1 p2 p3 p4 p5
    go_fit (CL.out xA xl xc _ HBL.out); rintro e w5 ⟨rfl,hb⟩
    have HBL := Lib.hid (bel_trans HBL.out hb)
    clear hb
    go_wp2_with fail
    go_fit (CA.out _); rintro e wz ⟨rfl,hbz⟩
    have HBZ := Lib.hid (bel_trans HBL.out hbz)
    clear hbz
    go_wp2_with fail
    go_ret
    exact ⟨rfl,HBZ.out⟩
   | true =>
    have cS := fun W (hb : Below w.heap.size w W) => shift_any p nA nl nc sA sl sc rA rl rc mA ml mc W (hp.ext hb) hv hfr hso
    have cL := fun A l c W (hb : Below w.heap.size w W) (hx : SlIs intR W A l c ms) => lift_any p nA nl nc sA sl sc rA rl rc mA ml mc A l c ms W (hp.ext hb) hx hv hfr hso hinc
    have cK := fun A l c W (hb : Below w.heap.size w W) (hx : SlIs intR W A l c ms) => models_any p nA nl nc sA sl sc rA rl rc mA ml mc A l c ms W (hp.ext hb) hx
    rw [check_of hv hinc] at cK
    have hvq := ex_validE (sf_is hpi hso)
    have hck := check_of hvq (lift_inc hpi hinc)
    have hmd := lift_model hpi hinc
    simp only [decide_true,Bool.true_and] at cK
    obtain ⟨bv,hbv⟩ : ∃ bv,bv = modelB p ms := ⟨_,rfl⟩
    rw [← hbv] at cK hmd
    have HP := Lib.hid hp; clear hp
    have CF := Lib.hid cF; clear cF
    have CV := Lib.hid cV; clear cV
    have CA := Lib.hid cA; clear cA
    have BW := Lib.hid bW; clear bW
    have BP := Lib.hid bP; clear bP
    have HF := Lib.hid hf; clear hf
    have HV := Lib.hid hv; clear hv
    have HPI := Lib.hid hpi; clear hpi
    have HFS := Lib.hid hfs; clear hfs
    have HSO := Lib.hid hso; clear hso
    have HMS := Lib.hid hms; clear hms
    have HINC := Lib.hid hinc; clear hinc
    have CS := Lib.hid cS; clear cS
    have CL := Lib.hid cL; clear cL
    have HFR := Lib.hid hfr; clear hfr
    have CM := Lib.hid cM; clear cM
    have HN := Lib.hid hn; clear hn
    have CK := Lib.hid cK; clear cK
    have HVQ := Lib.hid hvq; clear hvq
    have HCK := Lib.hid hck; clear hck
    have HMD := Lib.hid hmd; clear hmd
    have HBV := Lib.hid hbv; clear hbv
    go_enter Tryz.func5,Tryz.ntmps5
    go_wp2_with fail
    go_fit (CF.out _ BW.out); rintro e w1 ⟨rfl,hb1⟩
    have hbp := BP.out.bel hb1
    have HBL := Lib.hid (bel_trans BW.out hb1)
    clear hb1
    obtain ⟨p0,p1,p2,p3,p4,p5⟩ := pcells hbp
    have HBP := Lib.hid hbp; clear hbp
    go_wp2_with fail
    clear p0 p1 p2 p3 p4 p5
    go_fit (CV.out _ HBL.out); rintro e w2 ⟨rfl,hb⟩
    have hbp := HBP.out.bel hb
    have HBL := Lib.hid (bel_trans HBL.out hb)
    clear hb HBP
    obtain ⟨p0,p1,p2,p3,p4,p5⟩ := pcells hbp
    have HBP := Lib.hid hbp; clear hbp
    go_wp2_with fail
    clear p0 p1 p2 p3 p4 p5
    go_fit (CS.out _ HBL.out); rintro e w3 ⟨nE,lE,cE,sE,kE,dE,rE,mE,fE,tE,iE,jE,rfl,hP,hb⟩
    have hb' := bel_trans hb (bel_alloc w3 (.cells #[.int .i64 (sfP p).n,.slice nE lE cE,.slice sE kE dE,.slice rE mE fE,.slice tE iE jE] 27))
    have hbp := HBP.out.bel hb'
    have hbq : Blk (w3.alloc (.cells #[.int .i64 (sfP p).n,.slice nE lE cE,.slice sE kE dE,.slice rE mE fE,.slice tE iE jE] 27)) w3.heap.size 27 #[.int .i64 (sfP p).n,.slice nE lE cE,.slice sE kE dE,.slice rE mE fE,.slice tE iE jE] := blk_new rfl _ _
    have hP4 := hP.ext (bel_alloc w3 (.cells #[.int .i64 (sfP p).n,.slice nE lE cE,.slice sE kE dE,.slice rE mE fE,.slice tE iE jE] 27))
    have HBL := Lib.hid (bel_trans HBL.out hb')
    clear hb hb' HBP hP
    obtain ⟨p0,p1,p2,p3,p4,p5⟩ := pcells hbp
    have HBP := Lib.hid hbp; clear hbp
    have HBQ := Lib.hid hbq; clear hbq
    have HP4 := Lib.hid hP4; clear hP4
    go_wp2_with fail
    clear p0 p1 p2 p3 p4 p5
    generalize w3.alloc (.cells #[.int .i64 (sfP p).n,.slice nE lE cE,.slice sE kE dE,.slice rE mE fE,.slice tE iE jE] 27) = w4 at *
    generalize w3.heap.size = gq at *
    go_fit (CM.out w4 hn4 hn0 a0 a1); rintro e w5 ⟨xA,xl,xc,rfl,hx,hb⟩
    have hbp := HBP.out.bel hb
    have hbq := HBQ.out.bel hb
    have hP5 := HP4.out.ext hb
    have HBL := Lib.hid (bel_trans HBL.out hb)
    clear hb HBP HBQ HP4
    obtain ⟨p0,p1,p2,p3,p4,p5⟩ := pcells hbp
    have HBP := Lib.hid hbp; clear hbp
    have HBQ := Lib.hid hbq; clear hbq
    have HX := Lib.hid hx; clear hx
    have HP5 := Lib.hid hP5; clear hP5
    go_wp2_with fail
    clear p0 p1 p2 p3 p4 p5
    go_fit (CL.out xA xl xc _ HBL.out HX.out); rintro e w6 ⟨yA,yl,yc,rfl,hy,hb⟩
    have hbp := HBP.out.bel hb
    have hbq := HBQ.out.bel hb
    have hP6 := HP5.out.ext hb
    have hx6 := HX.out.ext hb
    have HBL := Lib.hid (bel_trans HBL.out hb)
    clear hb HBP HBQ HP5 HX
    obtain ⟨p0,p1,p2,p3,p4,p5⟩ := pcells hbp
    have HBP := Lib.hid hbp; clear hbp
    have HBQ := Lib.hid hbq; clear hbq
    have HX6 := Lib.hid hx6; clear hx6
    have HP6 := Lib.hid hP6; clear hP6
    have HY := Lib.hid hy; clear hy
    go_wp2_with fail
    clear p0 p1 p2 p3 p4 p5
    go_fit (CK.out xA xl xc _ HBL.out HX6.out); rintro e w7 ⟨rfl,hb⟩
    have hbq := HBQ.out.bel hb
    have hP7 := HP6.out.ext hb
    have hy7 := HY.out.ext hb
    have HBL := Lib.hid (bel_trans HBL.out hb)
    clear hb HBP HBQ HP6 HX6 HY
    have cK2 := models_any (sfP p) nE lE cE sE kE dE rE mE fE tE iE jE yA yl yc (liftL p ms) w7 hP7 hy7
    rw [HCK.out,HMD.out] at cK2
    simp only [decide_true,Bool.true_and] at cK2
    obtain ⟨p0,p1,p2,p3,p4,p5⟩ := pcells hbq
    have HBQ := Lib.hid hbq; clear hbq
    have HP7 := Lib.hid hP7; clear hP7
    have HY7 := Lib.hid hy7; clear hy7
    have CK2 := Lib.hid cK2; clear cK2
    go_wp2_with fail
    clear p0 p1 p2 p3 p4 p5
    go_fit CK2.out; rintro e w8 ⟨rfl,hb⟩
    have HBL := Lib.hid (bel_trans HBL.out hb)
    clear hb
    have hbb : (bv == bv) = true := by simp
    go_wp2_with fail
    go_fit (CA.out _); rintro e wz ⟨rfl,hbz⟩
    have HBZ := Lib.hid (bel_trans HBL.out hbz)
    clear hbz
    go_wp2_with fail
    go_ret
    exact ⟨rfl,HBZ.out⟩
  ·obtain ⟨v,hve⟩ : ∃ v,v = validE p := ⟨_,rfl⟩
   rw [← hve] at cV hv
   have q1 : (v != 0) = true := by simpa using hv
   have HP := Lib.hid hp; clear hp
   have CF := Lib.hid cF; clear cF
   have CV := Lib.hid cV; clear cV
   have CA := Lib.hid cA; clear cA
   have BW := Lib.hid bW; clear bW
   have BP := Lib.hid bP; clear bP
   have HF := Lib.hid hf; clear hf
   have HV := Lib.hid hv; clear hv
   have HVE := Lib.hid hve; clear hve
   go_enter Tryz.func5,Tryz.ntmps5
   go_wp2_with fail
   go_fit (CF.out _ BW.out); rintro e w1 ⟨rfl,hb1⟩
   have hbp := BP.out.bel hb1
   have HBL := Lib.hid (bel_trans BW.out hb1)
   clear hb1
   obtain ⟨p0,p1,p2,p3,p4,p5⟩ := pcells hbp
   have HBP := Lib.hid hbp; clear hbp
   go_wp2_with fail
   clear p0 p1 p2 p3 p4 p5
   go_fit (CV.out _ HBL.out); rintro e w2 ⟨rfl,hb⟩
   have HBL := Lib.hid (bel_trans HBL.out hb)
   clear hb
   go_wp2_with fail
   go_fit (CA.out _); rintro e wz ⟨rfl,hbz⟩
   have HBZ := Lib.hid (bel_trans HBL.out hbz)
   clear hbz
   go_wp2_with fail
   go_ret
   exact ⟨rfl,HBZ.out⟩
end Go.Proofs.YtceokdbcglbclaaGreat

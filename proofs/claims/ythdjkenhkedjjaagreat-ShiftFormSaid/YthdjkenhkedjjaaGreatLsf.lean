/- The law ShiftForm: it answers true and changes nothing that was there. Printed by mklsf.py. -/
import Derived.Test.YthdjkenhkedjjaaGreatGSd
import Derived.Test.YthdjkenhkedjjaaGreatG4
import Derived.Test.YthdjkenhkedjjaaGreatGsm
import Derived.Test.YthdjkenhkedjjaaGreatSfm
set_option maxRecDepth 100000
set_option maxHeartbeats 8000000
namespace Go.Proofs.YthdjkenhkedjjaaGreat
open Go.RowKit
theorem named_len3 {p : GProg} (h : namedB p = true) : (p.names.length : Int) = p.n := by
 unfold namedB at h
 simp only [Bool.and_eq_true,decide_eq_true_eq] at h
 exact h.1.1.2
theorem few_small3 {p : GProg} (hf : fewB p = true) : p.n ≤ 12 ∧ p.rules.length ≤ 16 := by
 unfold fewB at hf
 simp only [Bool.and_eq_true,decide_eq_true_eq] at hf
 refine ⟨hf.1.1.1.1.1,?_⟩
 omega
theorem SlIs.cut5 {α : Type} {R : Rep α} {w : World} {A : Option Addr} {l c : Nat} {xs : List α} (h : SlIs R w A l c xs) {m : Nat} (hm : m ≤ l) : SlIs R w A m c (xs.take m) := by
 refine ⟨by rw [List.length_take]; have := h.1; omega,Nat.le_trans hm h.2.1,⟨h.2.2.1.1,Nat.le_trans hm h.2.2.1.2⟩,fun h0 => ?_⟩
 obtain ⟨ad,e,hl,hc⟩ := h.2.2.2 (by omega)
 refine ⟨ad,e,hl,fun i x hx => hc i x ?_⟩
 rw [List.getElem?_take] at hx
 split at hx
 ·exact hx
 ·exact absurd hx (by simp)
theorem shiftForm_any (p : GProg) (nA : Option Addr) (nl nc : Nat) (sA : Option Addr) (sl sc : Nat) (rA : Option Addr) (rl rc : Nat) (mA : Option Addr) (ml mc : Nat) (w : World) (hp : ProgIn w p nA nl nc sA sl sc rA rl rc mA ml mc) :
  Calls Tryz.prog 6 #[.agg #[.int .i64 p.n,.slice nA nl nc,.slice sA sl sc,.slice rA rl rc,.slice mA ml mc]] w fun e w' => e = .returned (.bool true) ∧ Below w.heap.size w w' := by
 have cF := fun W (hb : Below w.heap.size w W) => few_any p nA nl nc sA sl sc rA rl rc mA ml mc W (hp.ext hb)
 have cV := fun W (hb : Below w.heap.size w W) => valid_any p nA nl nc sA sl sc rA rl rc mA ml mc W (hp.ext hb)
 have cA := awake22_any
 have bW := bel_alloc w (.cells #[.int .i64 p.n,.slice nA nl nc,.slice sA sl sc,.slice rA rl rc,.slice mA ml mc] 27)
 have bP : Blk (w.alloc (.cells #[.int .i64 p.n,.slice nA nl nc,.slice sA sl sc,.slice rA rl rc,.slice mA ml mc] 27)) w.heap.size 27 #[.int .i64 p.n,.slice nA nl nc,.slice sA sl sc,.slice rA rl rc,.slice mA ml mc] := blk_new rfl _ _
 cases hf : fewB p with
 | false =>
  rw [hf] at cF
  obtain ⟨HP,CF,CV,CA,BW,BP,HF⟩ := hd7 hp cF cV cA bW bP hf; clear hp cF cV cA bW bP hf
  go_enter Tryz.func6,Tryz.ntmps6
  go_wp2_with fail
  go_fit (CF.out _ BW.out); rintro e w1 ⟨rfl,hb⟩
  have HBL := Lib.hid (bel_trans BW.out hb)
  clear hb
  go_wp2_with fail
  go_fit (CA.out _); rintro e wz ⟨rfl,hbz⟩
  have HBZ := Lib.hid (bel_trans HBL.out hbz)
  clear hbz
  go_wp2_with fail
  go_ret
  exact ⟨rfl,HBZ.out⟩
 | true =>
  rw [hf] at cF
  by_cases hv : validE p = 0
  ·rw [hv] at cV
   have hpi := validE_is hv
   have hn := namedB_n hpi.named
   have hfs := few_small3 hf
   have hso := sf_small hpi hfs.1 (by omega)
   have cH := fun W (hb : Below w.heap.size w W) => free_any p nA nl nc sA sl sc rA rl rc mA ml mc W (hp.ext hb) hv
   cases hfr : freeB p with
   | false =>
    have hse : shiftE (freeB p) p = 220 := by unfold shiftE; rw [if_neg (by simp [hv]),hfr]; rfl
    have cS := fun W (hb : Below w.heap.size w W) => shift_err p nA nl nc sA sl sc rA rl rc mA ml mc W (hp.ext hb) (by rw [hse]; decide)
    rw [hse] at cS
    rw [hfr] at cH
    obtain ⟨HP,CF,CV,CA,BW,BP,HF,HV,HPI,HFS,HSO,CS⟩ := hd12 hp cF cV cA bW bP hf hv hpi hfs hso cS; clear hp cF cV cA bW bP hf hv hpi hfs hso cS
    obtain ⟨HFR,HSE,HN,CH⟩ := hd4 hfr hse hn cH; clear hfr hse hn cH
    go_enter Tryz.func6,Tryz.ntmps6
    go_wp2_with fail
    go_fit (CF.out _ BW.out); rintro e w1 ⟨rfl,hb⟩
    have HBP := BP
    have HBL := BW
    have hbp := HBP.out.bel hb
    have HBL' := Lib.hid (bel_trans HBL.out hb)
    clear hb HBP HBL
    have HBL := HBL'
    clear HBL'
    obtain ⟨p0,p1,p2,p3,p4,p5⟩ := pcells hbp
    have HBP := Lib.hid hbp; clear hbp
    go_wp2_with fail
    clear p0 p1 p2 p3 p4 p5
    go_fit (CV.out _ HBL.out); rintro e w2 ⟨rfl,hb⟩
    have hbp := HBP.out.bel hb
    have HBL' := Lib.hid (bel_trans HBL.out hb)
    clear hb HBP HBL
    have HBL := HBL'
    clear HBL'
    obtain ⟨p0,p1,p2,p3,p4,p5⟩ := pcells hbp
    have HBP := Lib.hid hbp; clear hbp
    go_wp2_with fail
    clear p0 p1 p2 p3 p4 p5
    go_fit (CS.out _ HBL.out); rintro e w3 ⟨rfl,hb'⟩
    have hb := bel_trans hb' (bel_alloc w3 (.cells #[.int .i64 0,.slice none 0 0,.slice none 0 0,.slice none 0 0,.slice none 0 0] 27))
    have hbz : Blk (w3.alloc (.cells #[.int .i64 0,.slice none 0 0,.slice none 0 0,.slice none 0 0,.slice none 0 0] 27)) w3.heap.size 27 #[.int .i64 0,.slice none 0 0,.slice none 0 0,.slice none 0 0,.slice none 0 0] := blk_new rfl _ _
    clear hb'
    have HBZ := Lib.hid hbz; clear hbz
    have hbp := HBP.out.bel hb
    have HBL' := Lib.hid (bel_trans HBL.out hb)
    clear hb HBP HBL
    have HBL := HBL'
    clear HBL'
    obtain ⟨p0,p1,p2,p3,p4,p5⟩ := pcells hbp
    have HBP := Lib.hid hbp; clear hbp
    go_wp2_with fail
    clear p0 p1 p2 p3 p4 p5
    generalize w3.alloc (.cells #[.int .i64 0,.slice none 0 0,.slice none 0 0,.slice none 0 0,.slice none 0 0] 27) = w4 at *
    generalize w3.heap.size = gz at *
    go_fit (CH.out w4 HBL.out); rintro e w5 ⟨rfl,hb⟩
    have hbz := HBZ.out.bel hb
    have HBL' := Lib.hid (bel_trans HBL.out hb)
    clear hb HBP HBL HBZ
    have HBL := HBL'
    clear HBL'
    obtain ⟨p0,p1,p2,p3,p4,p5⟩ := pcells hbz
    clear hbz
    go_wp2_with fail
    go_fit (CA.out _); rintro e wz ⟨rfl,hbz⟩
    have HBZ := Lib.hid (bel_trans HBL.out hbz)
    clear hbz
    go_wp2_with fail
    go_ret
    exact ⟨rfl,HBZ.out⟩
   | true =>
    rw [hfr] at cH
    have cS := fun W (hb : Below w.heap.size w W) => shift_any p nA nl nc sA sl sc rA rl rc mA ml mc W (hp.ext hb) hv hfr hso
    obtain ⟨hqv,hqf,hqo,hqs⟩ := sf_again hpi hso
    have hrl := hp.rules.len
    have hrc := hp.rules.cap
    have hrm := hp.rules.max
    have hnl := hp.names.len
    have hnn := sf_names hpi
    have hnlen := named_len3 hpi.named
    have hqd := sf_nodj p
    have hqi := sf_is hpi hso
    obtain ⟨HP,CF,CV,CA,BW,BP,HF,HV,HPI,HFS,HSO,CS⟩ := hd12 hp cF cV cA bW bP hf hv hpi hfs hso cS; clear hp cF cV cA bW bP hf hv hpi hfs hso cS
    obtain ⟨HFR,HN,CH,HQV,HQF,HQO,HQS,HRL,HNL,HNN,HQD,HQI⟩ := hd12 hfr hn cH hqv hqf hqo hqs hrl hnl hnn hqd hqi; clear hfr hn cH hqv hqf hqo hqs hrl hnl hnn hqd hqi
    have HNLEN := Lib.hid hnlen; clear hnlen
    go_enter Tryz.func6,Tryz.ntmps6
    go_wp2_with fail
    go_fit (CF.out _ BW.out); rintro e w1 ⟨rfl,hb⟩
    have HBP := BP
    have HBL := BW
    have hbp := HBP.out.bel hb
    have HBL' := Lib.hid (bel_trans HBL.out hb)
    clear hb HBP HBL
    have HBL := HBL'
    clear HBL'
    obtain ⟨p0,p1,p2,p3,p4,p5⟩ := pcells hbp
    have HBP := Lib.hid hbp; clear hbp
    go_wp2_with fail
    clear p0 p1 p2 p3 p4 p5
    go_fit (CV.out _ HBL.out); rintro e w2 ⟨rfl,hb⟩
    have hbp := HBP.out.bel hb
    have HBL' := Lib.hid (bel_trans HBL.out hb)
    clear hb HBP HBL
    have HBL := HBL'
    clear HBL'
    obtain ⟨p0,p1,p2,p3,p4,p5⟩ := pcells hbp
    have HBP := Lib.hid hbp; clear hbp
    go_wp2_with fail
    clear p0 p1 p2 p3 p4 p5
    go_fit (CS.out _ HBL.out); rintro e w3 ⟨nE,lE,cE,sE,kE,dE,rE,mE,fE,tE,iE,jE,rfl,hP,hb'⟩
    have hb := bel_trans hb' (bel_alloc w3 (.cells #[.int .i64 (sfP p).n,.slice nE lE cE,.slice sE kE dE,.slice rE mE fE,.slice tE iE jE] 27))
    have hbq : Blk (w3.alloc (.cells #[.int .i64 (sfP p).n,.slice nE lE cE,.slice sE kE dE,.slice rE mE fE,.slice tE iE jE] 27)) w3.heap.size 27 #[.int .i64 (sfP p).n,.slice nE lE cE,.slice sE kE dE,.slice rE mE fE,.slice tE iE jE] := blk_new rfl _ _
    have hP4 := hP.ext (bel_alloc w3 (.cells #[.int .i64 (sfP p).n,.slice nE lE cE,.slice sE kE dE,.slice rE mE fE,.slice tE iE jE] 27))
    clear hb' hP
    obtain ⟨HBQ,HP4⟩ := hd2 hbq hP4; clear hbq hP4
    have hbp := HBP.out.bel hb
    have HBL' := Lib.hid (bel_trans HBL.out hb)
    clear hb HBP HBL
    have HBL := HBL'
    clear HBL'
    obtain ⟨p0,p1,p2,p3,p4,p5⟩ := pcells hbp
    have HBP := Lib.hid hbp; clear hbp
    go_wp2_with fail
    clear p0 p1 p2 p3 p4 p5
    generalize w3.alloc (.cells #[.int .i64 (sfP p).n,.slice nE lE cE,.slice sE kE dE,.slice rE mE fE,.slice tE iE jE] 27) = w4 at *
    generalize w3.heap.size = gq at *
    go_fit (CH.out w4 HBL.out); rintro e w5 ⟨rfl,hb⟩
    have hbq := HBQ.out.bel hb
    have hbp := HBP.out.bel hb
    have hP5 := HP4.out.ext hb
    have hw5 := bel_trans HBL.out hb
    clear hb HBP HBL HBQ HP4
    obtain ⟨p0,p1,p2,p3,p4,p5⟩ := pcells hbp
    obtain ⟨HBQ,HBP,HP5,HW5⟩ := hd4 hbq hbp hP5 hw5; clear hbq hbp hP5 hw5
    go_wp2_with fail
    clear p0 p1 p2 p3 p4 p5
    go_loopw [7,8,68] (fun a b t wr => ∃ i : Nat,i ≤ rl ∧ t = .int .i64 (i : Int) ∧ a = .int .i64 ((sfC (p.rules.take i) : Nat) : Int) ∧ b = .int .i64 (((sfL (p.rules.take i) p.n).length : Nat) : Int) ∧ Below w5.heap.size w5 wr) (fun _ _ t _ => rl - (intOf t).toNat)
    case atStart => exact ⟨0,Nat.zero_le _,rfl,rfl,rfl,Below.refl _ _⟩
    case round =>
     obtain ⟨i,hi,rfl,rfl,rfl,hw⟩ := hrel
     obtain ⟨wo,rfl⟩ : ∃ wo : World,wo = wr := ⟨_,rfl⟩
     by_cases hlt : i < rl
     ·obtain ⟨r,hri,-⟩ := HP.out.rules.drop hlt
      have hbw := bel_trans HW5.out hw
      obtain ⟨bb,off,hA,hl,hc,bA,bl,bc,wA,wl,wc,rfl,hbl2,d0,d1,d2,d3,d4,d5,g1,g2,g3,g4⟩ := (HP.out.rules.ext hbw).rule hri
      have k0 : (0 : Int) ≤ (i : Int) := by omega
      have k1 : (i : Int) < (rl : Int) := by omega
      have hcount := sfL_count hri p.n
      have hct := sfC_take hri
      have hgl := g1.len
      have hb1 := sfC_len (p.rules.take i)
      have hb2 := sfL_len (N := 12) (p.rules.take i) p.n fun x hx => by
       have := inc_lenN HN.out.1 (HPI.out.rules x (List.mem_of_mem_take hx)).head
       have := HFS.out.1
       omega
      have hb3 : (p.rules.take i).length ≤ 16 := by have := List.length_take_le i p.rules; have := HFS.out.2; have := List.length_take_le' i p.rules; omega
      have hh12 : r.head.length ≤ 12 := by
       have := inc_lenN HN.out.1 (HPI.out.rules r (List.mem_of_getElem? hri)).head
       have := HFS.out.1
       omega
      obtain ⟨SC,hSC⟩ : ∃ SC,SC = sfC (p.rules.take i) := ⟨_,rfl⟩
      obtain ⟨SL,hSL⟩ : ∃ SL,SL = (sfL (p.rules.take i) p.n).length := ⟨_,rfl⟩
      rw [← hSC] at hct hb1
      rw [← hSL] at hcount hb2
      have hsl : SL ≤ 208 := by omega
      have hsc : SC ≤ 16 := by omega
      obtain ⟨ch,hch⟩ : ∃ ch,r.choice = ch := ⟨_,rfl⟩
      obtain ⟨sm,hsm⟩ : ∃ sm,r.sum = sm := ⟨_,rfl⟩
      rw [hch] at d0
      rw [hsm] at d2
      have b4 : Blk (wo.alloc (.cells #[.bool ch,.slice hA hl hc,.bool sm,.int .i64 r.bound,.slice bA bl bc,.slice wA wl wc] 42)) wo.heap.size 42 #[.bool ch,.slice hA hl hc,.bool sm,.int .i64 r.bound,.slice bA bl bc,.slice wA wl wc] := blk_new rfl _ _
      have m0 : (wo.alloc (.cells #[.bool ch,.slice hA hl hc,.bool sm,.int .i64 r.bound,.slice bA bl bc,.slice wA wl wc] 42)).cell? ⟨wo.heap.size,0,none⟩ = some (.bool ch) := b4.cell 0
      have m1 : (wo.alloc (.cells #[.bool ch,.slice hA hl hc,.bool sm,.int .i64 r.bound,.slice bA bl bc,.slice wA wl wc] 42)).cell? ⟨wo.heap.size,1,none⟩ = some (.slice hA hl hc) := b4.cell 1
      have m2 : (wo.alloc (.cells #[.bool ch,.slice hA hl hc,.bool sm,.int .i64 r.bound,.slice bA bl bc,.slice wA wl wc] 42)).cell? ⟨wo.heap.size,2,none⟩ = some (.bool sm) := b4.cell 2
      have hw4 := bel_trans hw (bel_alloc wo (.cells #[.bool ch,.slice hA hl hc,.bool sm,.int .i64 r.bound,.slice bA bl bc,.slice wA wl wc] 42))
      have z1 : IntKind.i64.wrap ((SL : Int) + 1) = (SL : Int) + 1 := IntWalk.i64_in _ (by omega)
      have z2 : IntKind.i64.wrap ((hl : Int) - 1) = (hl : Int) - 1 := IntWalk.i64_in _ (by omega)
      have z3 : IntKind.i64.wrap ((SL : Int) + 1 + ((hl : Int) - 1)) = ((SL + hl : Nat) : Int) := by rw [IntWalk.i64_in _ (by omega)]; omega
      have z4 : IntKind.i64.wrap ((SC : Int) + 1) = (SC : Int) + 1 := IntWalk.i64_in _ (by omega)
      have z5 : IntKind.i64.wrap (((SL + hl : Nat) : Int) + 1) = ((SL + hl : Nat) : Int) + 1 := IntWalk.i64_in _ (by omega)
      have z6 : IntKind.i64.wrap ((SL : Int) + (hl : Int) + 1) = (SL : Int) + (hl : Int) + 1 := IntWalk.i64_in _ (by omega)
      rw [← hSC,← hSL]
      by_cases hdj : ch = false ∧ 1 < hl
      ·obtain ⟨rfl,hl1⟩ := hdj
       have hd : djB r = true := by unfold djB; rw [hch,decide_eq_true (by omega)]; rfl
       have hl1' : (1 : Int) < (hl : Int) := by omega
       cases sm with
       | true =>
        have q1 : (sfL (p.rules.take (i + 1)) p.n).length = SL + hl + 1 := by rw [hcount,hd,hsm]; simp only [if_true]; omega
        have q2 : sfC (p.rules.take (i + 1)) = SC + 1 := by rw [hct]; unfold sfN; rw [hd,hsm]; rfl
        obtain ⟨HW,HBW,HRI,G1,G2,G3,G4,HCOUNT,HCT,HGL,B4,HW4⟩ := hd12 hw hbw hri g1 g2 g3 g4 hcount hct hgl b4 hw4; clear hw hbw hri g1 g2 g3 g4 hcount hct hgl b4 hw4
        obtain ⟨HSC,HSL,HCH,HSM,HD,Q1,Q2,HB1,HB2,HB3,HH12⟩ := hd11 hSC hSL hch hsm hd q1 q2 hb1 hb2 hb3 hh12; clear hSC hSL hch hsm hd q1 q2 hb1 hb2 hb3 hh12
        go_wp2_with fail
        go_roundw
        case rel => exact ⟨i + 1,by omega,by go_num,by rw [Q2.out]; go_num,by rw [Q1.out]; go_num,HW4.out⟩
        case measure => simp [intOf]; omega
       | false =>
        have q1 : (sfL (p.rules.take (i + 1)) p.n).length = SL + hl := by rw [hcount,hd,hsm]; simp only [if_true,if_false,Bool.false_eq_true]; omega
        have q2 : sfC (p.rules.take (i + 1)) = SC := by rw [hct]; unfold sfN; rw [hd,hsm]; rfl
        obtain ⟨HW,HBW,HRI,G1,G2,G3,G4,HCOUNT,HCT,HGL,B4,HW4⟩ := hd12 hw hbw hri g1 g2 g3 g4 hcount hct hgl b4 hw4; clear hw hbw hri g1 g2 g3 g4 hcount hct hgl b4 hw4
        obtain ⟨HSC,HSL,HCH,HSM,HD,Q1,Q2,HB1,HB2,HB3,HH12⟩ := hd11 hSC hSL hch hsm hd q1 q2 hb1 hb2 hb3 hh12; clear hSC hSL hch hsm hd q1 q2 hb1 hb2 hb3 hh12
        go_wp2_with fail
        go_roundw
        case rel => exact ⟨i + 1,by omega,by go_num,by rw [Q2.out],by rw [Q1.out]; go_num,HW4.out⟩
        case measure => simp [intOf]; omega
      ·have hd : djB r = false := by
        unfold djB
        rw [hch]
        cases ch with
        | true => rfl
        | false => rw [decide_eq_false (fun h => hdj ⟨rfl,by omega⟩)]; rfl
       have q1 : (sfL (p.rules.take (i + 1)) p.n).length = SL + 1 := by rw [hcount,hd]; simp only [if_false,Bool.false_eq_true]
       have q2 : sfC (p.rules.take (i + 1)) = SC := by rw [hct]; unfold sfN; rw [hd]; rfl
       cases ch with
       | true =>
        obtain ⟨HW,HBW,HRI,G1,G2,G3,G4,HCOUNT,HCT,HGL,B4,HW4⟩ := hd12 hw hbw hri g1 g2 g3 g4 hcount hct hgl b4 hw4; clear hw hbw hri g1 g2 g3 g4 hcount hct hgl b4 hw4
        obtain ⟨HSC,HSL,HCH,HSM,HD,Q1,Q2,HB1,HB2,HB3,HH12,HDJ⟩ := hd12 hSC hSL hch hsm hd q1 q2 hb1 hb2 hb3 hh12 hdj; clear hSC hSL hch hsm hd q1 q2 hb1 hb2 hb3 hh12 hdj
        go_wp2_with fail
        go_roundw
        case rel => exact ⟨i + 1,by omega,by go_num,by rw [Q2.out],by rw [Q1.out]; go_num,HW4.out⟩
        case measure => simp [intOf]; omega
       | false =>
        have hl2 : ¬ (1 : Int) < (hl : Int) := fun h => hdj ⟨rfl,by omega⟩
        obtain ⟨HW,HBW,HRI,G1,G2,G3,G4,HCOUNT,HCT,HGL,B4,HW4⟩ := hd12 hw hbw hri g1 g2 g3 g4 hcount hct hgl b4 hw4; clear hw hbw hri g1 g2 g3 g4 hcount hct hgl b4 hw4
        obtain ⟨HSC,HSL,HCH,HSM,HD,Q1,Q2,HB1,HB2,HB3,HH12,HDJ⟩ := hd12 hSC hSL hch hsm hd q1 q2 hb1 hb2 hb3 hh12 hdj; clear hSC hSL hch hsm hd q1 q2 hb1 hb2 hb3 hh12 hdj
        go_wp2_with fail
        go_roundw
        case rel => exact ⟨i + 1,by omega,by go_num,by rw [Q2.out],by rw [Q1.out]; go_num,HW4.out⟩
        case measure => simp [intOf]; omega
     ·have hil : rl = i := by omega
      subst hil
      have htk : p.rules.take rl = p.rules := List.take_of_length_le (by have := HRL.out; omega)
      rw [htk]
      have hbq := HBQ.out.bel hw
      have hbp := HBP.out.bel hw
      have hP6 := HP5.out.ext hw
      have hw6 := bel_trans HW5.out hw
      obtain ⟨ql,hql⟩ : ∃ ql,ql = mE := ⟨_,rfl⟩
      obtain ⟨p0,p1,p2,p3,p4,p5⟩ := pcells hbq
      clear HBQ HBP HP5
      obtain ⟨HBQ,HBP,HP6,HW6,HW,HTK⟩ := hd6 hbq hbp hP6 hw6 hw htk; clear hbq hbp hP6 hw6 hw htk
      go_wp2_with fail
      clear p0 p1 p2 p3 p4 p5
      go_loopw [99] (fun t wr => ∃ k : Nat,k ≤ mE ∧ t = .int .i64 (k : Int) ∧ Below wo.heap.size wo wr) (fun t _ => mE - (intOf t).toNat)
      case atStart => exact ⟨0,Nat.zero_le _,rfl,Below.refl _ _⟩
      case round =>
       obtain ⟨k,hk,rfl,hwk⟩ := hrel
       obtain ⟨wv,rfl⟩ : ∃ wv : World,wv = wr := ⟨_,rfl⟩
       by_cases hlt : k < mE
       ·obtain ⟨r,hri,-⟩ := HP6.out.rules.drop hlt
        obtain ⟨bb,off,hA,hl,hc,bA,bl,bc,wA,wl,wc,rfl,hbl2,d0,d1,d2,d3,d4,d5,g1,g2,g3,g4⟩ := (HP6.out.rules.ext hwk).rule hri
        have k0 : (0 : Int) ≤ (k : Int) := by omega
        have k1 : (k : Int) < (mE : Int) := by omega
        have hqm := HP6.out.rules.max
        have hqc := HP6.out.rules.cap
        have hgl := g1.len
        obtain ⟨ch,hch⟩ : ∃ ch,r.choice = ch := ⟨_,rfl⟩
        rw [hch] at d0
        have hdj := HQD.out r (List.mem_of_getElem? hri)
        unfold djB at hdj
        rw [hch] at hdj
        have b4 : Blk (wv.alloc (.cells #[.bool ch,.slice hA hl hc,.bool r.sum,.int .i64 r.bound,.slice bA bl bc,.slice wA wl wc] 42)) wv.heap.size 42 #[.bool ch,.slice hA hl hc,.bool r.sum,.int .i64 r.bound,.slice bA bl bc,.slice wA wl wc] := blk_new rfl _ _
        have m0 : (wv.alloc (.cells #[.bool ch,.slice hA hl hc,.bool r.sum,.int .i64 r.bound,.slice bA bl bc,.slice wA wl wc] 42)).cell? ⟨wv.heap.size,0,none⟩ = some (.bool ch) := b4.cell 0
        have m1 : (wv.alloc (.cells #[.bool ch,.slice hA hl hc,.bool r.sum,.int .i64 r.bound,.slice bA bl bc,.slice wA wl wc] 42)).cell? ⟨wv.heap.size,1,none⟩ = some (.slice hA hl hc) := b4.cell 1
        have hw4 := bel_trans hwk (bel_alloc wv (.cells #[.bool ch,.slice hA hl hc,.bool r.sum,.int .i64 r.bound,.slice bA bl bc,.slice wA wl wc] 42))
        have zk : IntKind.i64.wrap ((k : Int) + 1) = (k : Int) + 1 := IntWalk.i64_in _ (by omega)
        cases ch with
        | true =>
         obtain ⟨HWK,HRI,G1,G2,G3,G4,B4,HW4,HCH,HDJ,HGL,HQM⟩ := hd12 hwk hri g1 g2 g3 g4 b4 hw4 hch hdj hgl hqm; clear hwk hri g1 g2 g3 g4 b4 hw4 hch hdj hgl hqm
         have HQC := Lib.hid hqc; clear hqc
         go_wp2_with fail
         go_roundw
         case rel => exact ⟨k + 1,by omega,by go_num,HW4.out⟩
         case measure => simp [intOf]; omega
        | false =>
         have hl2 : ¬ (1 : Int) < (hl : Int) := by
          have : ¬ 1 < r.head.length := by simpa using hdj
          omega
         obtain ⟨HWK,HRI,G1,G2,G3,G4,B4,HW4,HCH,HDJ,HGL,HQM⟩ := hd12 hwk hri g1 g2 g3 g4 b4 hw4 hch hdj hgl hqm; clear hwk hri g1 g2 g3 g4 b4 hw4 hch hdj hgl hqm
         have HQC := Lib.hid hqc; clear hqc
         go_wp2_with fail
         go_roundw
         case rel => exact ⟨k + 1,by omega,by go_num,HW4.out⟩
         case measure => simp [intOf]; omega
       ·have hkl : k = mE := by omega
        subst hkl
        have hbq := HBQ.out.bel hwk
        have hbp := HBP.out.bel hwk
        have hP7 := HP6.out.ext hwk
        have hw7 := bel_trans HW6.out hwk
        obtain ⟨p0,p1,p2,p3,p4,p5⟩ := pcells hbq
        clear HBQ HBP
        obtain ⟨HWK,HBQ,HBP,HP7,HW7⟩ := hd5 hwk hbq hbp hP7 hw7; clear hwk hbq hbp hP7 hw7
        go_wp2_with fail
        clear p0 p1 p2 p3 p4 p5
        have cS2 := shift_any (sfP p) nE lE cE sE kE dE rE k fE tE iE jE wv HP7.out HQV.out HQF.out HQO.out
        rw [HQS.out] at cS2
        go_fit cS2; rintro e w7 ⟨nF,lF,oF,sF,kF,dF,rF,mF,fF,tF,iF,jF,rfl,hR,hb'⟩
        have hb := bel_trans hb' (bel_alloc w7 (.cells #[.int .i64 (sfP p).n,.slice nF lF oF,.slice sF kF dF,.slice rF mF fF,.slice tF iF jF] 27))
        have hbq := HBQ.out.bel hb
        have hbr : Blk (w7.alloc (.cells #[.int .i64 (sfP p).n,.slice nF lF oF,.slice sF kF dF,.slice rF mF fF,.slice tF iF jF] 27)) w7.heap.size 27 #[.int .i64 (sfP p).n,.slice nF lF oF,.slice sF kF dF,.slice rF mF fF,.slice tF iF jF] := blk_new rfl _ _
        obtain ⟨p0,p1,p2,p3,p4,p5⟩ := pcells hbq
        obtain ⟨HB',HB,HBQ,HBR,HR⟩ := hd5 hb' hb hbq hbr hR; clear hb' hb hbq hbr hR
        go_wp2_with fail
        clear p0 p1 p2 p3 p4 p5
        have hbr8 := HBR.out.alloc (.cells #[.int .i64 (sfP p).n,.slice nE lE cE,.slice sE kE dE,.slice rE k fE,.slice tE iE jE] 27)
        have hbq8 := HBQ.out.alloc (.cells #[.int .i64 (sfP p).n,.slice nE lE cE,.slice sE kE dE,.slice rE k fE,.slice tE iE jE] 27)
        have hb8 := bel_trans HB.out (bel_alloc _ (.cells #[.int .i64 (sfP p).n,.slice nE lE cE,.slice sE kE dE,.slice rE k fE,.slice tE iE jE] 27))
        have hbc8 : Blk ((w7.alloc (.cells #[.int .i64 (sfP p).n,.slice nF lF oF,.slice sF kF dF,.slice rF mF fF,.slice tF iF jF] 27)).alloc (.cells #[.int .i64 (sfP p).n,.slice nE lE cE,.slice sE kE dE,.slice rE k fE,.slice tE iE jE] 27)) (w7.heap.size + 1) 27 #[.int .i64 (sfP p).n,.slice nE lE cE,.slice sE kE dE,.slice rE k fE,.slice tE iE jE] := blk_new (by simp) _ _
        have hb78 : Below w7.heap.size w7 ((w7.alloc (.cells #[.int .i64 (sfP p).n,.slice nF lF oF,.slice sF kF dF,.slice rF mF fF,.slice tF iF jF] 27)).alloc (.cells #[.int .i64 (sfP p).n,.slice nE lE cE,.slice sE kE dE,.slice rE k fE,.slice tE iE jE] 27)) := bel_trans (bel_alloc _ _) (bel_alloc _ _)
        have hvs := HB'.out.size
        have hbp8 := HBP.out.bel hb8
        have hgq := HBQ.out.lt
        have hgc : w.heap.size ≠ w7.heap.size + 1 ∧ gq ≠ w7.heap.size + 1 := by
         have h1 := HBP.out.lt
         have h2 := HBQ.out.lt
         rw [World.size_alloc] at h2
         omega
        have hmn : min p.n (lE : Int) = (nl : Int) := by
         have h1 := HP7.out.names.len
         have h2 : p.names.length ≤ (sfP p).names.length := by show p.names.length ≤ (p.names ++ List.replicate _ ByteArray.empty).length; rw [List.length_append]; omega
         have h3 := HNLEN.out
         have h4 := HNL.out
         omega
        have hce : nl ≤ cE ∧ nl ≤ lE := by have := HP7.out.names.cap; omega
        generalize hw8 : (w7.alloc (.cells #[.int .i64 (sfP p).n,.slice nF lF oF,.slice sF kF dF,.slice rF mF fF,.slice tF iF jF] 27)).alloc (.cells #[.int .i64 (sfP p).n,.slice nE lE cE,.slice sE kE dE,.slice rE k fE,.slice tE iE jE] 27) = w8 at *
        generalize hgr : w7.heap.size = gr at *
        obtain ⟨HBR8,HBQ8,HB8,HBC8,HB78,HBP8,HGQ,HGC,HMN,HCE,HW8,HGR⟩ := hd12 hbr8 hbq8 hb8 hbc8 hb78 hbp8 hgq hgc hmn hce hw8 hgr; clear hbr8 hbq8 hb8 hbc8 hb78 hbp8 hgq hgc hmn hce hw8 hgr
        refine wp_region_inv (fun listed a' w' => ∃ (b0 b1 b2 b3 b4 b5 b6 b7 b8 b9 b10 b11 b12 b13 b14 b15 b16 b17 b18 : Bool) (u119 u120 u121 u122 u123 u124 u125 u126 u127 u128 u129 u130 u131 u132 u133 u134 : Value),listed = #[b0,b1,b2,b3,b4,b5,b6,b7,b8,b9,b10,b11,b12,b13,b14,b15,b16,b17,b18] ∧ a' = { tmps := #[.agg #[.int .i64 p.n,.slice nA nl nc,.slice sA sl sc,.slice rA rl rc,.slice mA ml mc],.pointer (some ⟨w.heap.size,0,none⟩),u2,.pointer (some ⟨gq,0,none⟩),.int .i64 0,.bool true,.int .i64 0,.int .i64 ↑(sfC p.rules),.int .i64 ↑(sfL p.rules p.n).length,undef,u10,undef,u12,.pointer (some ⟨gr,0,none⟩),.int .i64 0,.pointer (some ⟨gr + 1,0,none⟩),.agg #[.int .i64 p.n,.slice nA nl nc,.slice sA sl sc,.slice rA rl rc,.slice mA ml mc],.bool true,.bool false,.bool false,.agg #[.int .i64 p.n,.slice nA nl nc,.slice sA sl sc,.slice rA rl rc,.slice mA ml mc],.int .i64 0,.bool false,.bool false,undef,Value.tuple #[.agg #[.int .i64 (sfP p).n,.slice nE lE cE,.slice sE kE dE,.slice rE k fE,.slice tE iE jE],.int .i64 0],.agg #[.int .i64 p.n,.slice nA nl nc,.slice sA sl sc,.slice rA rl rc,.slice mA ml mc],Value.tuple #[.agg #[.int .i64 (sfP p).n,.slice nE lE cE,.slice sE kE dE,.slice rE k fE,.slice tE iE jE],.int .i64 0],.agg #[.int .i64 (sfP p).n,.slice nE lE cE,.slice sE kE dE,.slice rE k fE,.slice tE iE jE],.int .i64 0,Value.tuple #[.bool true,.int .i64 0],.agg #[.int .i64 p.n,.slice nA nl nc,.slice sA sl sc,.slice rA rl rc,.slice mA ml mc],Value.tuple #[.bool true,.int .i64 0],.bool true,.int .i64 0,.int .i64 0,.bool false,.bool false,.int .i64 0,.bool true,.bool true,.bool false,.bool false,.bool false,.int .i64 0,.bool false,.bool false,undef,undef,.bool false,.bool false,.int .i64 0,.bool false,undef,undef,undef,undef,undef,undef,undef,undef,undef,undef,undef,undef,.pointer (some ⟨w.heap.size,3,none⟩),.slice rA rl rc,.int .i64 (rl : Int),.int .i64 (rl : Int),.bool false,u70,u71,u72,u73,u74,u75,u76,u77,u78,u79,u80,u81,u82,u83,u84,u85,u86,u87,u88,u89,u90,u91,u92,u93,u94,u95,.pointer (some ⟨gq,3,none⟩),.slice rE k fE,.int .i64 (k : Int),.int .i64 (k : Int),.bool false,u101,u102,u103,u104,u105,u106,u107,u108,u109,u110,u111,u112,Value.tuple #[.agg #[.int .i64 (sfP p).n,.slice nF lF oF,.slice sF kF dF,.slice rF mF fF,.slice tF iF jF],.int .i64 0],.agg #[.int .i64 (sfP p).n,.slice nE lE cE,.slice sE kE dE,.slice rE k fE,.slice tE iE jE],Value.tuple #[.agg #[.int .i64 (sfP p).n,.slice nF lF oF,.slice sF kF dF,.slice rF mF fF,.slice tF iF jF],.int .i64 0],.agg #[.int .i64 (sfP p).n,.slice nF lF oF,.slice sF kF dF,.slice rF mF fF,.slice tF iF jF],.int .i64 0,.agg #[.int .i64 (sfP p).n,.slice nE lE cE,.slice sE kE dE,.slice rE k fE,.slice tE iE jE],u119,u120,u121,u122,u123,u124,u125,u126,u127,u128,u129,u130,u131,u132,u133,u134,undef,undef,undef,undef,undef,undef,undef,undef,undef,undef,undef,undef,undef,undef,undef,undef,undef,undef,undef,undef,undef,undef,undef,undef,undef,undef,undef,undef,undef,undef,undef,undef,undef,undef,undef,undef],defers := [] } ∧ (Kept [(gr + 1)] w8 w') ∧ (∃ x0 x1 x3,Blk w' (gr + 1) 27 #[x0,x1,.slice sE kE dE,x3,.slice tE iE jE] ∧ (b14 = true → x0 = .int .i64 p.n) ∧ (b16 = true → x1 = .slice nE nl cE) ∧ (b18 = true → x3 = .slice rA rl rc)) ∧ (b0 = true → u119 = .pointer (some ⟨w.heap.size,0,none⟩)) ∧ (b1 = true → u120 = .int .i64 p.n) ∧ (b2 = true → u121 = .pointer (some ⟨gq,1,none⟩)) ∧ (b3 = true → u122 = .slice nE lE cE) ∧ (b4 = true → u123 = .pointer (some ⟨w.heap.size,0,none⟩)) ∧ (b5 = true → u124 = .int .i64 p.n) ∧ (b6 = true → u125 = .pointer (some ⟨gq,1,none⟩)) ∧ (b7 = true → u126 = .slice nE lE cE) ∧ (b8 = true → u127 = .int .i64 (lE : Int)) ∧ (b9 = true → u128 = .int .i64 (nl : Int)) ∧ (b10 = true → u129 = .slice nE nl cE) ∧ (b11 = true → u130 = .pointer (some ⟨w.heap.size,3,none⟩)) ∧ (b12 = true → u131 = .slice rA rl rc) ∧ (b13 = true → u132 = .pointer (some ⟨(gr + 1),0,none⟩)) ∧ (b15 = true → u133 = .pointer (some ⟨(gr + 1),1,none⟩)) ∧ (b17 = true → u134 = .pointer (some ⟨(gr + 1),3,none⟩))) (by kernel_rfl) ?start ?step ?_
        case start => exact ⟨false,false,false,false,false,false,false,false,false,false,false,false,false,false,false,false,false,false,false,_,_,_,_,_,_,_,_,_,_,_,_,_,_,_,_,rfl,rfl,(Kept.refl _ _).drew,⟨_,_,_,HBC8.out.drew,fun e => (by cases e),fun e => (by cases e),fun e => (by cases e)⟩,(by simp),(by simp),(by simp),(by simp),(by simp),(by simp),(by simp),(by simp),(by simp),(by simp),(by simp),(by simp),(by simp),(by simp),(by simp),(by simp)⟩
        case step =>
         rintro listed a' w' i o ⟨b0,b1,b2,b3,b4,b5,b6,b7,b8,b9,b10,b11,b12,b13,b14,b15,b16,b17,b18,u119,u120,u121,u122,u123,u124,u125,u126,u127,u128,u129,u130,u131,u132,u133,u134,rfl,rfl,hk0,hB,f0,f1,f2,f3,f4,f5,f6,f7,f8,f9,f10,f11,f12,f13,f15,f17⟩ ho hli hd K hK
         match i,ho,hli,hd with
         | 0,ho,hli,hd =>
          obtain rfl := Option.some.inj ho
          obtain rfl : b0 = false := hli
          go_simp
          exact hK _ _ ⟨_,_,_,_,_,_,_,_,_,_,_,_,_,_,_,_,_,_,_,_,_,_,_,_,_,_,_,_,_,_,_,_,_,_,_,rfl,rfl,hk0,hB,(fun _ => rfl),f1,f2,f3,f4,f5,f6,f7,f8,f9,f10,f11,f12,f13,f15,f17⟩
         | 1,ho,hli,hd =>
          obtain rfl := Option.some.inj ho
          obtain rfl : b1 = false := hli
          obtain rfl : b0 = true := hd ⟨0,.data⟩ (by simp) rfl
          obtain rfl := f0 rfl
          have m0 : w'.cell? ⟨w.heap.size,0,none⟩ = some (.int .i64 p.n) := (hk0.blk HBP8.out (by simp; exact HGC.out.1)).cell 0
          go_simp
          exact hK _ _ ⟨_,_,_,_,_,_,_,_,_,_,_,_,_,_,_,_,_,_,_,_,_,_,_,_,_,_,_,_,_,_,_,_,_,_,_,rfl,rfl,hk0,hB,f0,(fun _ => rfl),f2,f3,f4,f5,f6,f7,f8,f9,f10,f11,f12,f13,f15,f17⟩
         | 2,ho,hli,hd =>
          obtain rfl := Option.some.inj ho
          obtain rfl : b2 = false := hli
          go_simp
          exact hK _ _ ⟨_,_,_,_,_,_,_,_,_,_,_,_,_,_,_,_,_,_,_,_,_,_,_,_,_,_,_,_,_,_,_,_,_,_,_,rfl,rfl,hk0,hB,f0,f1,(fun _ => rfl),f3,f4,f5,f6,f7,f8,f9,f10,f11,f12,f13,f15,f17⟩
         | 3,ho,hli,hd =>
          obtain rfl := Option.some.inj ho
          obtain rfl : b3 = false := hli
          obtain rfl : b2 = true := hd ⟨2,.data⟩ (by simp) rfl
          obtain rfl := f2 rfl
          have m1 : w'.cell? ⟨gq,1,none⟩ = some (.slice nE lE cE) := (hk0.blk HBQ8.out (by simp; exact HGC.out.2)).cell 1
          go_simp
          exact hK _ _ ⟨_,_,_,_,_,_,_,_,_,_,_,_,_,_,_,_,_,_,_,_,_,_,_,_,_,_,_,_,_,_,_,_,_,_,_,rfl,rfl,hk0,hB,f0,f1,f2,(fun _ => rfl),f4,f5,f6,f7,f8,f9,f10,f11,f12,f13,f15,f17⟩
         | 4,ho,hli,hd =>
          obtain rfl := Option.some.inj ho
          obtain rfl : b4 = false := hli
          go_simp
          exact hK _ _ ⟨_,_,_,_,_,_,_,_,_,_,_,_,_,_,_,_,_,_,_,_,_,_,_,_,_,_,_,_,_,_,_,_,_,_,_,rfl,rfl,hk0,hB,f0,f1,f2,f3,(fun _ => rfl),f5,f6,f7,f8,f9,f10,f11,f12,f13,f15,f17⟩
         | 5,ho,hli,hd =>
          obtain rfl := Option.some.inj ho
          obtain rfl : b5 = false := hli
          obtain rfl : b4 = true := hd ⟨4,.data⟩ (by simp) rfl
          obtain rfl := f4 rfl
          have m0 : w'.cell? ⟨w.heap.size,0,none⟩ = some (.int .i64 p.n) := (hk0.blk HBP8.out (by simp; exact HGC.out.1)).cell 0
          go_simp
          exact hK _ _ ⟨_,_,_,_,_,_,_,_,_,_,_,_,_,_,_,_,_,_,_,_,_,_,_,_,_,_,_,_,_,_,_,_,_,_,_,rfl,rfl,hk0,hB,f0,f1,f2,f3,f4,(fun _ => rfl),f6,f7,f8,f9,f10,f11,f12,f13,f15,f17⟩
         | 6,ho,hli,hd =>
          obtain rfl := Option.some.inj ho
          obtain rfl : b6 = false := hli
          go_simp
          exact hK _ _ ⟨_,_,_,_,_,_,_,_,_,_,_,_,_,_,_,_,_,_,_,_,_,_,_,_,_,_,_,_,_,_,_,_,_,_,_,rfl,rfl,hk0,hB,f0,f1,f2,f3,f4,f5,(fun _ => rfl),f7,f8,f9,f10,f11,f12,f13,f15,f17⟩
         | 7,ho,hli,hd =>
          obtain rfl := Option.some.inj ho
          obtain rfl : b7 = false := hli
          obtain rfl : b6 = true := hd ⟨6,.data⟩ (by simp) rfl
          obtain rfl := f6 rfl
          have m1 : w'.cell? ⟨gq,1,none⟩ = some (.slice nE lE cE) := (hk0.blk HBQ8.out (by simp; exact HGC.out.2)).cell 1
          go_simp
          exact hK _ _ ⟨_,_,_,_,_,_,_,_,_,_,_,_,_,_,_,_,_,_,_,_,_,_,_,_,_,_,_,_,_,_,_,_,_,_,_,rfl,rfl,hk0,hB,f0,f1,f2,f3,f4,f5,f6,(fun _ => rfl),f8,f9,f10,f11,f12,f13,f15,f17⟩
         | 8,ho,hli,hd =>
          obtain rfl := Option.some.inj ho
          obtain rfl : b8 = false := hli
          obtain rfl : b7 = true := hd ⟨7,.data⟩ (by simp) rfl
          obtain rfl := f7 rfl
          go_simp
          exact hK _ _ ⟨_,_,_,_,_,_,_,_,_,_,_,_,_,_,_,_,_,_,_,_,_,_,_,_,_,_,_,_,_,_,_,_,_,_,_,rfl,rfl,hk0,hB,f0,f1,f2,f3,f4,f5,f6,f7,(fun _ => rfl),f9,f10,f11,f12,f13,f15,f17⟩
         | 9,ho,hli,hd =>
          obtain rfl := Option.some.inj ho
          obtain rfl : b9 = false := hli
          obtain rfl : b5 = true := hd ⟨5,.data⟩ (by simp) rfl
          obtain rfl : b8 = true := hd ⟨8,.data⟩ (by simp) rfl
          obtain rfl := f5 rfl
          obtain rfl := f8 rfl
          have hmn := HMN.out
          go_simp
          exact hK _ _ ⟨_,_,_,_,_,_,_,_,_,_,_,_,_,_,_,_,_,_,_,_,_,_,_,_,_,_,_,_,_,_,_,_,_,_,_,rfl,rfl,hk0,hB,f0,f1,f2,f3,f4,f5,f6,f7,f8,(fun _ => rfl),f10,f11,f12,f13,f15,f17⟩
         | 10,ho,hli,hd =>
          obtain rfl := Option.some.inj ho
          obtain rfl : b10 = false := hli
          obtain rfl : b3 = true := hd ⟨3,.data⟩ (by simp) rfl
          obtain rfl : b9 = true := hd ⟨9,.data⟩ (by simp) rfl
          obtain rfl := f3 rfl
          obtain rfl := f9 rfl
          have hc1 := HCE.out.1
          have hc2 : (nl : Int) ≤ (cE : Int) := by omega
          have hc0 : (0 : Int) ≤ (nl : Int) := by omega
          go_simp
          exact hK _ _ ⟨_,_,_,_,_,_,_,_,_,_,_,_,_,_,_,_,_,_,_,_,_,_,_,_,_,_,_,_,_,_,_,_,_,_,_,rfl,rfl,hk0,hB,f0,f1,f2,f3,f4,f5,f6,f7,f8,f9,(fun _ => rfl),f11,f12,f13,f15,f17⟩
         | 11,ho,hli,hd =>
          obtain rfl := Option.some.inj ho
          obtain rfl : b11 = false := hli
          go_simp
          exact hK _ _ ⟨_,_,_,_,_,_,_,_,_,_,_,_,_,_,_,_,_,_,_,_,_,_,_,_,_,_,_,_,_,_,_,_,_,_,_,rfl,rfl,hk0,hB,f0,f1,f2,f3,f4,f5,f6,f7,f8,f9,f10,(fun _ => rfl),f12,f13,f15,f17⟩
         | 12,ho,hli,hd =>
          obtain rfl := Option.some.inj ho
          obtain rfl : b12 = false := hli
          obtain rfl : b11 = true := hd ⟨11,.data⟩ (by simp) rfl
          obtain rfl := f11 rfl
          have m3 : w'.cell? ⟨w.heap.size,3,none⟩ = some (.slice rA rl rc) := (hk0.blk HBP8.out (by simp; exact HGC.out.1)).cell 3
          go_simp
          exact hK _ _ ⟨_,_,_,_,_,_,_,_,_,_,_,_,_,_,_,_,_,_,_,_,_,_,_,_,_,_,_,_,_,_,_,_,_,_,_,rfl,rfl,hk0,hB,f0,f1,f2,f3,f4,f5,f6,f7,f8,f9,f10,f11,(fun _ => rfl),f13,f15,f17⟩
         | 13,ho,hli,hd =>
          obtain rfl := Option.some.inj ho
          obtain rfl : b13 = false := hli
          go_simp
          exact hK _ _ ⟨_,_,_,_,_,_,_,_,_,_,_,_,_,_,_,_,_,_,_,_,_,_,_,_,_,_,_,_,_,_,_,_,_,_,_,rfl,rfl,hk0,hB,f0,f1,f2,f3,f4,f5,f6,f7,f8,f9,f10,f11,f12,(fun _ => rfl),f15,f17⟩
         | 14,ho,hli,hd =>
          obtain rfl := Option.some.inj ho
          obtain rfl : b14 = false := hli
          obtain rfl : b13 = true := hd ⟨13,.data⟩ (by simp) rfl
          obtain rfl : b1 = true := hd ⟨1,.data⟩ (by simp) rfl
          obtain rfl := f13 rfl
          obtain rfl := f1 rfl
          obtain ⟨x0,x1,x3,hg,a0,a1,a3⟩ := hB
          have m1 := hg.cell 0
          have m2 := hg.frozen 0
          have hk : Kept [(gr + 1)] w' (w'.setCell ⟨(gr + 1),0,none⟩ (.int .i64 p.n)) := (Kept.refl _ _).set (.inl (by simp)) _
          have hg2 := hg.set_ 0 (.int .i64 p.n)
          go_simp
          exact hK _ _ ⟨_,_,_,_,_,_,_,_,_,_,_,_,_,_,_,_,_,_,_,_,_,_,_,_,_,_,_,_,_,_,_,_,_,_,_,rfl,rfl,(hk0.trans hk),⟨_,x1,x3,hg2,fun _ => rfl,a1,a3⟩,f0,f1,f2,f3,f4,f5,f6,f7,f8,f9,f10,f11,f12,f13,f15,f17⟩
         | 15,ho,hli,hd =>
          obtain rfl := Option.some.inj ho
          obtain rfl : b15 = false := hli
          go_simp
          exact hK _ _ ⟨_,_,_,_,_,_,_,_,_,_,_,_,_,_,_,_,_,_,_,_,_,_,_,_,_,_,_,_,_,_,_,_,_,_,_,rfl,rfl,hk0,hB,f0,f1,f2,f3,f4,f5,f6,f7,f8,f9,f10,f11,f12,f13,(fun _ => rfl),f17⟩
         | 16,ho,hli,hd =>
          obtain rfl := Option.some.inj ho
          obtain rfl : b16 = false := hli
          obtain rfl : b15 = true := hd ⟨15,.data⟩ (by simp) rfl
          obtain rfl : b10 = true := hd ⟨10,.data⟩ (by simp) rfl
          obtain rfl := f15 rfl
          obtain rfl := f10 rfl
          obtain ⟨x0,x1,x3,hg,a0,a1,a3⟩ := hB
          have m1 := hg.cell 1
          have m2 := hg.frozen 1
          have hk : Kept [(gr + 1)] w' (w'.setCell ⟨(gr + 1),1,none⟩ (.slice nE nl cE)) := (Kept.refl _ _).set (.inl (by simp)) _
          have hg2 := hg.set_ 1 (.slice nE nl cE)
          go_simp
          exact hK _ _ ⟨_,_,_,_,_,_,_,_,_,_,_,_,_,_,_,_,_,_,_,_,_,_,_,_,_,_,_,_,_,_,_,_,_,_,_,rfl,rfl,(hk0.trans hk),⟨x0,_,x3,hg2,a0,fun _ => rfl,a3⟩,f0,f1,f2,f3,f4,f5,f6,f7,f8,f9,f10,f11,f12,f13,f15,f17⟩
         | 17,ho,hli,hd =>
          obtain rfl := Option.some.inj ho
          obtain rfl : b17 = false := hli
          go_simp
          exact hK _ _ ⟨_,_,_,_,_,_,_,_,_,_,_,_,_,_,_,_,_,_,_,_,_,_,_,_,_,_,_,_,_,_,_,_,_,_,_,rfl,rfl,hk0,hB,f0,f1,f2,f3,f4,f5,f6,f7,f8,f9,f10,f11,f12,f13,f15,(fun _ => rfl)⟩
         | 18,ho,hli,hd =>
          obtain rfl := Option.some.inj ho
          obtain rfl : b18 = false := hli
          obtain rfl : b17 = true := hd ⟨17,.data⟩ (by simp) rfl
          obtain rfl : b12 = true := hd ⟨12,.data⟩ (by simp) rfl
          obtain rfl := f17 rfl
          obtain rfl := f12 rfl
          obtain ⟨x0,x1,x3,hg,a0,a1,a3⟩ := hB
          have m1 := hg.cell 3
          have m2 := hg.frozen 3
          have hk : Kept [(gr + 1)] w' (w'.setCell ⟨(gr + 1),3,none⟩ (.slice rA rl rc)) := (Kept.refl _ _).set (.inl (by simp)) _
          have hg2 := hg.set_ 3 (.slice rA rl rc)
          go_simp
          exact hK _ _ ⟨_,_,_,_,_,_,_,_,_,_,_,_,_,_,_,_,_,_,_,_,_,_,_,_,_,_,_,_,_,_,_,_,_,_,_,rfl,rfl,(hk0.trans hk),⟨x0,x1,_,hg2,a0,a1,fun _ => rfl⟩,f0,f1,f2,f3,f4,f5,f6,f7,f8,f9,f10,f11,f12,f13,f15,f17⟩
         | i + 19,ho,hli,hd => simp at ho
        rintro listed a' w' ⟨b0,b1,b2,b3,b4,b5,b6,b7,b8,b9,b10,b11,b12,b13,b14,b15,b16,b17,b18,u119,u120,u121,u122,u123,u124,u125,u126,u127,u128,u129,u130,u131,u132,u133,u134,rfl,rfl,hk0,hB,f0,f1,f2,f3,f4,f5,f6,f7,f8,f9,f10,f11,f12,f13,f15,f17⟩ hr
        obtain rfl : b0 = true := rn hr 0 rfl
        obtain rfl : b1 = true := rn hr 1 rfl
        obtain rfl : b2 = true := rn hr 2 rfl
        obtain rfl : b3 = true := rn hr 3 rfl
        obtain rfl : b4 = true := rn hr 4 rfl
        obtain rfl : b5 = true := rn hr 5 rfl
        obtain rfl : b6 = true := rn hr 6 rfl
        obtain rfl : b7 = true := rn hr 7 rfl
        obtain rfl : b8 = true := rn hr 8 rfl
        obtain rfl : b9 = true := rn hr 9 rfl
        obtain rfl : b10 = true := rn hr 10 rfl
        obtain rfl : b11 = true := rn hr 11 rfl
        obtain rfl : b12 = true := rn hr 12 rfl
        obtain rfl : b13 = true := rn hr 13 rfl
        obtain rfl : b14 = true := rn hr 14 rfl
        obtain rfl : b15 = true := rn hr 15 rfl
        obtain rfl : b16 = true := rn hr 16 rfl
        obtain rfl : b17 = true := rn hr 17 rfl
        obtain rfl : b18 = true := rn hr 18 rfl
        clear hr
        obtain ⟨x0,x1,x3,hg,a0,a1,a3⟩ := hB
        obtain rfl := a0 rfl
        obtain rfl := a1 rfl
        obtain rfl := a3 rfl
        clear f0 f1 f2 f3 f4 f5 f6 f7 f8 f9 f10 f11 f12 f13 f15 f17
        have hbw8 := bel_trans HW7.out HB8.out
        have hbw9 := Kept.below hbw8 hk0 hbw8.size (fun q hq => by have := HW7.out.size; simp at hq; omega)
        have hbv9 := Kept.below HB8.out hk0 HB8.out.size (fun q hq => by simp at hq; omega)
        have hb79 : Below w7.heap.size w7 w' := by
         rw [HGR.out]
         exact Kept.below HB78.out hk0 (by have h := HB78.out.size; rwa [HGR.out] at h) (fun q hq => by simp at hq; omega)
        have hbp9 := hk0.blk HBP8.out (by simp; exact HGC.out.1)
        have hbq9 := hk0.blk HBQ8.out (by simp; exact HGC.out.2)
        have hbr9 := hk0.blk HBR8.out (by simp)
        have hP9 := HP7.out.ext hbv9
        have hR9 := HR.out.ext hb79
        have hpo9 := HP.out.ext hbw9
        have hcut : ProgIn w' p nE nl cE sE kE dE rA rl rc tE iE jE := by
         refine ⟨hpo9.n,?_,hP9.shown,hpo9.rules,hP9.min⟩
         have h := SlIs.cut5 hP9.names (m := nl) HCE.out.2
         have e : (sfP p).names.take nl = p.names := by rw [HNL.out]; exact HNN.out
         rwa [e] at h
        have hnq : IntKind.i64.wrap (p.n + (sfC p.rules : Int)) = (sfP p).n := by
         have h1 := (namedB_n HQI.out.named).1
         have h2 := (namedB_n HQI.out.named).2
         rw [sfP_n] at h1 h2 ⊢
         exact IntWalk.i64_in _ (by omega)
        have hkL : (((sfL p.rules p.n).length : Nat) : Int) = (k : Int) := by
         have h := hP9.rules.len
         rw [sf_rules,List.length_map] at h
         omega
        have cV2 := valid_any (sfP p) nE lE cE sE kE dE rE k fE tE iE jE w' hP9
        rw [HQV.out] at cV2
        obtain ⟨q0,q1,q2,q3,q4,q5⟩ := pcells hbq9
        obtain ⟨HG,HBW8,HBW9,HBV9,HB79,HBP9,HBQ9,HBR9,HP9,HR9,HPO9,HCUT⟩ := hd12 hg hbw8 hbw9 hbv9 hb79 hbp9 hbq9 hbr9 hP9 hR9 hpo9 hcut; clear hg hbw8 hbw9 hbv9 hb79 hbp9 hbq9 hbr9 hP9 hR9 hpo9 hcut
        obtain ⟨CV2,HK0⟩ := hd2 cV2 hk0; clear cV2 hk0
        go_wp2_with fail
        clear q0 q1 q2 q3 q4 q5
        go_fit CV2.out; rintro e wA ⟨rfl,hb⟩
        have hbq := HBQ9.out.bel hb
        have hbr := HBR9.out.bel hb
        have hbp := HBP9.out.bel hb
        have hbc := HG.out.bel hb
        have cG1 := gsame_true (sfP p) nF lF oF sF kF dF rF mF fF tF iF jF nE lE cE sE kE dE rE k fE tE iE jE wA (HR9.out.ext hb) (HP9.out.ext hb)
        have hcA := HCUT.out.ext hb
        have hpA := HPO9.out.ext hb
        have hbA := bel_trans HBW9.out hb
        obtain ⟨q0,q1,q2,q3,q4,q5⟩ := pcells hbq
        obtain ⟨r0,r1,r2,r3,r4,r5⟩ := pcells hbr
        obtain ⟨HBQ,HBR,HBP,HBC,CG1,HCA,HPA,HBA,HB⟩ := hd9 hbq hbr hbp hbc cG1 hcA hpA hbA hb; clear hbq hbr hbp hbc cG1 hcA hpA hbA hb
        go_wp2_with fail
        clear q0 q1 q2 q3 q4 q5 r0 r1 r2 r3 r4 r5
        go_fit CG1.out; rintro e wB ⟨rfl,hb⟩
        have hbq := HBQ.out.bel hb
        have hbp := HBP.out.bel hb
        have hbc := HBC.out.bel hb
        have cG2 := gsame_true p nE nl cE sE kE dE rA rl rc tE iE jE nA nl nc sA sl sc rA rl rc mA ml mc wB (HCA.out.ext hb) (HPA.out.ext hb)
        have hbB := bel_trans HBA.out hb
        obtain ⟨q0,q1,q2,q3,q4,q5⟩ := pcells hbq
        obtain ⟨r0,r1,r2,r3,r4,r5⟩ := pcells hbc
        obtain ⟨p0,p1,p2,p3,p4,p5⟩ := pcells hbp
        obtain ⟨HBQ,HBP,HBC,CG2,HBB,HB⟩ := hd6 hbq hbp hbc cG2 hbB hb; clear hbq hbp hbc cG2 hbB hb
        go_wp2_with fail
        clear q0 q1 q2 q3 q4 q5 r0 r1 r2 r3 r4 r5 p0 p1 p2 p3 p4 p5
        go_fit CG2.out; rintro e wC ⟨rfl,hb⟩
        have HBL := Lib.hid (bel_trans HBB.out hb)
        clear hb
        go_wp2_with fail
        go_fit (CA.out _); rintro e wz ⟨rfl,hbz⟩
        have HBZ := Lib.hid (bel_trans HBL.out hbz)
        clear hbz
        go_wp2_with fail
        go_ret
        exact ⟨rfl,HBZ.out⟩
  ·obtain ⟨v,hve⟩ : ∃ v,v = validE p := ⟨_,rfl⟩
   rw [← hve] at cV hv
   have q1 : (v != 0) = true := by simpa using hv
   obtain ⟨HP,CF,CV,CA,BW,BP,HF,HV,HVE⟩ := hd9 hp cF cV cA bW bP hf hv hve; clear hp cF cV cA bW bP hf hv hve
   go_enter Tryz.func6,Tryz.ntmps6
   go_wp2_with fail
   go_fit (CF.out _ BW.out); rintro e w1 ⟨rfl,hb⟩
   have HBP := BP
   have HBL := BW
   have hbp := HBP.out.bel hb
   have HBL' := Lib.hid (bel_trans HBL.out hb)
   clear hb HBP HBL
   have HBL := HBL'
   clear HBL'
   obtain ⟨p0,p1,p2,p3,p4,p5⟩ := pcells hbp
   have HBP := Lib.hid hbp; clear hbp
   go_wp2_with fail
   clear p0 p1 p2 p3 p4 p5
   go_fit (CV.out _ HBL.out); rintro e w2 ⟨rfl,hb⟩
   have HBL' := Lib.hid (bel_trans HBL.out hb)
   clear hb HBL
   have HBL := HBL'
   clear HBL'
   go_wp2_with fail
   go_fit (CA.out _); rintro e wz ⟨rfl,hbz⟩
   have HBZ := Lib.hid (bel_trans HBL.out hbz)
   clear hbz
   go_wp2_with fail
   go_ret
   exact ⟨rfl,HBZ.out⟩
end Go.Proofs.YthdjkenhkedjjaaGreat

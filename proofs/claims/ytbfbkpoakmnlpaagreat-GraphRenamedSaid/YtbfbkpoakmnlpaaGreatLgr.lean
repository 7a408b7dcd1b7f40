/- The law GraphRenamed: it answers true and changes nothing that was there. Printed by mkgrn.py. -/
import Derived.Test.YtbfbkpoakmnlpaaGreatRen
import Derived.Test.YtbfbkpoakmnlpaaGreatGN
import Derived.Test.YtbfbkpoakmnlpaaGreatGGr
import Derived.Test.YtbfbkpoakmnlpaaGreatGV
import Derived.Test.YtbfbkpoakmnlpaaGreatRat
import Derived.Deep.QuietTactic
import Derived.BigQuiet
namespace Go.Proofs.YtbfbkpoakmnlpaaGreat
open Go.RowKit
set_option maxRecDepth 100000 in
set_option maxHeartbeats 8000000 in
theorem graphRenamed_any (p : GProg) (nA : Option Addr) (nl nc : Nat) (sA : Option Addr) (sl sc : Nat) (rA : Option Addr) (rl rc : Nat) (mA : Option Addr) (ml mc : Nat) (tn : Int) (w : World) (hp : ProgIn w p nA nl nc sA sl sc rA rl rc mA ml mc) (ht0 : 0 ≤ tn) (ht1 : tn ≤ 255) :
  Calls Tryz.prog 3 #[.agg #[.int .i64 p.n,.slice nA nl nc,.slice sA sl sc,.slice rA rl rc,.slice mA ml mc],.int .u8 tn] w fun e w' => e = .returned (.bool true) ∧ Below w.heap.size w w' := by
 have cS := fun W (hb : Below w.heap.size w W) => fine_any p nA nl nc sA sl sc rA rl rc mA ml mc W (hp.ext hb)
 have cA := awake21_any
 cases hsm : fineB p with
 | false =>
  rw [hsm] at cS
  have HP := Lib.hid hp; clear hp
  have CS := Lib.hid cS; clear cS
  have CA := Lib.hid cA; clear cA
  have HSM := Lib.hid hsm; clear hsm
  go_enter Tryz.func3,Tryz.ntmps3
  go_wp2_with fail
  go_fit (CS.out _ (bel_alloc _ _)); rintro e w1 ⟨rfl,hb⟩
  have HBW := Lib.hid (bel_trans (bel_alloc _ _) hb)
  clear hb
  go_wp2_with fail
  go_fit (CA.out _); rintro e w2 ⟨rfl,hb⟩
  have HBZ := Lib.hid (bel_trans HBW.out hb)
  clear hb
  go_wp2_with fail
  go_ret
  exact ⟨rfl,HBZ.out⟩
 | true =>
  rw [hsm] at cS
  obtain ⟨hfew,hv⟩ := fine_is hsm
  have hpi := validE_is hv
  have hn6 := fine_n hfew
  have hn0 : 0 ≤ p.n := (namedB_n hpi.named).1
  have hrc := hp.rules.cap
  have hrm := hp.rules.max
  by_cases hz : p.n = 0
  ·have t2 : (p.n == 0) = true := by simpa using hz
   have HP := Lib.hid hp; clear hp
   have CS := Lib.hid cS; clear cS
   have CA := Lib.hid cA; clear cA
   have HSM := Lib.hid hsm; clear hsm
   have HV := Lib.hid hv; clear hv
   have HFEW := Lib.hid hfew; clear hfew
   have HPI := Lib.hid hpi; clear hpi
   have HZ := Lib.hid hz; clear hz
   go_enter Tryz.func3,Tryz.ntmps3
   go_wp2_with fail
   go_fit (CS.out _ (bel_alloc _ _)); rintro e w1 ⟨rfl,hb⟩
   have HX := Lib.hid ((Blk.new w 27 #[.int .i64 p.n,.slice nA nl nc,.slice sA sl sc,.slice rA rl rc,.slice mA ml mc]).bel hb)
   have HBW := Lib.hid (bel_trans (bel_alloc _ _) hb)
   clear hb
   obtain ⟨p0,p1,p2,p3,p4,p5⟩ := pcells HX.out
   go_wp2_with fail
   go_fit (CA.out _); rintro e w2 ⟨rfl,hb⟩
   have HBZ := Lib.hid (bel_trans HBW.out hb)
   clear hb
   go_wp2_with fail
   go_ret
   exact ⟨rfl,HBZ.out⟩
  ·have t2 : (p.n == 0) = false := by simpa using hz
   have hnpos : 0 < p.n := by omega
   have HP := Lib.hid hp; clear hp
   have CS := Lib.hid cS; clear cS
   have CA := Lib.hid cA; clear cA
   have HSM := Lib.hid hsm; clear hsm
   have HV := Lib.hid hv; clear hv
   have HFEW := Lib.hid hfew; clear hfew
   have HPI := Lib.hid hpi; clear hpi
   have HZ := Lib.hid hz; clear hz
   go_enter Tryz.func3,Tryz.ntmps3
   go_wp2_with fail
   go_fit (CS.out _ (bel_alloc _ _)); rintro e w1 ⟨rfl,hb⟩
   have HX := Lib.hid ((Blk.new w 27 #[.int .i64 p.n,.slice nA nl nc,.slice sA sl sc,.slice rA rl rc,.slice mA ml mc]).bel hb)
   have HBW := Lib.hid (bel_trans (bel_alloc _ _) hb)
   clear hb
   obtain ⟨p0,p1,p2,p3,p4,p5⟩ := pcells HX.out
   go_wp2_with fail
   clear p0 p1 p2 p3 p4 p5
   obtain ⟨wp,rfl⟩ : ∃ wp : World,wp = w1 := ⟨_,rfl⟩
   go_loopw [5,43] (fun v t wr => ∃ (k : Nat),(k : Int) ≤ p.n ∧ t = .int .i64 (k : Int) ∧ OwnI wr wp.heap.size v k (rotL p.n tn k) ∧ Below wp.heap.size wp wr) (fun _ t _ => p.n.toNat - (intOf t).toNat)
   case atStart => exact ⟨0,by omega,rfl,OwnI.nil _ _,Below.refl _ _⟩
   case round =>
    obtain ⟨k,hk,rfl,ho,hb⟩ := hrel
    have hsz := hb.size
    have hxr := HX.out.bel hb
    obtain ⟨p0,p1,p2,p3,p4,p5⟩ := pcells hxr
    by_cases hlt : (k : Int) < p.n
    ·have k0 : (0 : Int) ≤ (k : Int) := by omega
     have e1 : IntKind.i64.wrap ((k : Int) + tn) = (k : Int) + tn := IntWalk.i64_in _ (by omega)
     have m0 : 0 ≤ ((k : Int) + tn) % p.n := Int.emod_nonneg _ (by omega)
     have m1 : ((k : Int) + tn) % p.n < p.n := Int.emod_lt_of_pos _ (by omega)
     obtain ⟨v',w5,hrun,hown5,hg5,hat5⟩ := app1 ho (1 + ((k : Int) + tn) % p.n) (by omega) hsz 23
     have hb5 := bel_grown hb hg5 hsz (fun q hq => (ho.2.lt q hq).1)
     rw [← rotL_succ] at hown5
     have HXR := Lib.hid hxr; clear hxr
     have HO := Lib.hid ho; clear ho
     have HB := Lib.hid hb; clear hb
     have HRUN := Lib.hid hrun; clear hrun
     have HOWN5 := Lib.hid hown5; clear hown5
     have HG5 := Lib.hid hg5; clear hg5
     have HAT5 := Lib.hid hat5; clear hat5
     have HB5 := Lib.hid hb5; clear hb5
     go_wp2_with (at_builtin; refine wpList_append_run rfl _ _ _ rfl _ _ rfl rfl _ _ HRUN.out ?_)
     go_roundw
     case rel => exact ⟨k + 1,by omega,by go_num,HOWN5.out,HB5.out⟩
     case measure => simp [intOf]; omega
    ·have hkN : k = p.n.toNat := by omega
     subst hkN
     have hpmI := rotI_perm (n := p.n) (t := tn) (by omega)
     have hpl := hpmI.len
     obtain ⟨qA,qc,rfl,hqs⟩ := ho.sl (by omega) (rot_64 (by omega) (by omega))
     obtain ⟨pm,hpm⟩ : ∃ pm,pm = rotL p.n tn p.n.toNat := ⟨_,rfl⟩
     rw [← hpm] at hqs hpmI hpl
     obtain ⟨ql,hqlE⟩ : ∃ ql,ql = p.n.toNat := ⟨_,rfl⟩
     rw [← hqlE] at hqs hlt ⊢
     have hqlN : (ql : Int) = p.n := by omega
     have hqpl : pm.length = ql := by omega
     have hql12 : ql ≤ 12 := by omega
     have HQLE := Lib.hid hqlE; clear hqlE
     have HQLN := Lib.hid hqlN; clear hqlN
     have hqc := hqs.cap
     have hqm := hqs.max
     have hbX := bel_trans HBW.out hb
     clear ho hpm
     obtain ⟨wm,rfl⟩ : ∃ wm : World,wm = wr := ⟨_,rfl⟩
     have cR := rename_any p nA nl nc sA sl sc rA rl rc mA ml mc qA ql qc pm wm (HP.out.ext hbX) HV.out hqs hpmI
     have hz := ren_iso HPI.out hpmI
     have hfree := ren_free HPI.out hpmI
     have hq64 : ∀ x ∈ pm,1 ≤ x ∧ x ≤ p.n := fun x hx => hpmI.rng.1 hx
     clear hb hsz
     have HQS := Lib.hid hqs; clear hqs
     have HPMI := Lib.hid hpmI; clear hpmI
     have HBX := Lib.hid hbX; clear hbX
     have HXR := Lib.hid hxr; clear hxr
     have CR := Lib.hid cR; clear cR
     have HZ := Lib.hid hz; clear hz
     have HFREE := Lib.hid hfree; clear hfree
     have HQPL := Lib.hid hqpl; clear hqpl
     have HQ64 := Lib.hid hq64; clear hq64
     go_wp2_with fail
     go_fit CR.out; rintro e w6 ⟨nA',nl',nc',sA',sl',sc',rA',rl',rc',mA',ml',mc',rfl,hpq,hb6⟩
     clear p0 p1 p2 p3 p4 p5
     have hb := bel_alloc w6 (.cells #[.int .i64 p.n,.slice nA' nl' nc',.slice sA' sl' sc',.slice rA' rl' rc',.slice mA' ml' mc'] 27)
     have hyo := Blk.new w6 27 #[.int .i64 p.n,.slice nA' nl' nc',.slice sA' sl' sc',.slice rA' rl' rc',.slice mA' ml' mc']
     have hb7 := bel_trans hb6 hb
     have hxo := HXR.out.bel hb7
     have hqs7 := HQS.out.ext hb7
     have hp7 := HP.out.ext (bel_trans HBX.out hb7)
     have hpq7 := hpq.ext hb
     have hbw7 := bel_trans HBX.out hb7
     obtain ⟨q,hqe⟩ : ∃ q,q = renP pm p := ⟨_,rfl⟩
     have hz2 := HZ.out
     have hfr2 := HFREE.out
     rw [← hqe] at hpq7 hz2 hfr2
     have hqv : validE q = 0 := ex_validE hz2.qi
     have en : q.n = p.n := hz2.n
     have hgy : w6.heap.size < (w6.alloc (.cells #[.int .i64 p.n,.slice nA' nl' nc',.slice sA' sl' sc',.slice rA' rl' rc',.slice mA' ml' mc'] 27)).heap.size := by simp
     have HYO := Lib.hid hyo; clear hyo
     have HB7 := Lib.hid hb7; clear hb7
     have HXO := Lib.hid hxo; clear hxo
     have HQS7 := Lib.hid hqs7; clear hqs7
     have HP7 := Lib.hid hp7; clear hp7
     have HPQ7 := Lib.hid hpq7; clear hpq7
     have HBW7 := Lib.hid hbw7; clear hbw7
     have HQE := Lib.hid hqe; clear hqe
     have HZ2 := Lib.hid hz2; clear hz2
     have HFR2 := Lib.hid hfr2; clear hfr2
     have HQV := Lib.hid hqv; clear hqv
     have HPQ := Lib.hid hpq; clear hpq
     have EN := Lib.hid en; clear en
     clear hb6 hb
     have HB := Lib.hid (Below.refl (w6.alloc (.cells #[.int .i64 p.n,.slice nA' nl' nc',.slice sA' sl' sc',.slice rA' rl' rc',.slice mA' ml' mc'] 27)).heap.size (w6.alloc (.cells #[.int .i64 p.n,.slice nA' nl' nc',.slice sA' sl' sc',.slice rA' rl' rc',.slice mA' ml' mc'] 27)))
     obtain ⟨p0,p1,p2,p3,p4,p5⟩ := pcells HXO.out
     obtain ⟨r0,r1,r2,r3,r4,r5⟩ := pcells HYO.out
     go_upto_region 10 with fail
     generalize w6.alloc (.cells #[.int .i64 p.n,.slice nA' nl' nc',.slice sA' sl' sc',.slice rA' rl' rc',.slice mA' ml' mc'] 27) = w7 at *
     have cE1 := fun W (hb : Below w7.heap.size w7 W) => edges_any p nA nl nc sA sl sc rA rl rc mA ml mc W (HP7.out.ext hb) HV.out
     have cE2 := fun W (hb : Below w7.heap.size w7 W) => edges_any q nA' nl' nc' sA' sl' sc' rA' rl' rc' mA' ml' mc' W (HPQ7.out.ext hb) HQV.out
     have cN1 := fun W (hb : Below w7.heap.size w7 W) => number_any p nA nl nc sA sl sc rA rl rc mA ml mc W (HP7.out.ext hb) HV.out
     have cN2 := fun W (hb : Below w7.heap.size w7 W) => number_any q nA' nl' nc' sA' sl' sc' rA' rl' rc' mA' ml' mc' W (HPQ7.out.ext hb) HQV.out
     have cY1 := fun W (hb : Below w7.heap.size w7 W) => cycle_any p nA nl nc sA sl sc rA rl rc mA ml mc W (HP7.out.ext hb) HV.out
     have cY2 := fun W (hb : Below w7.heap.size w7 W) => cycle_any q nA' nl' nc' sA' sl' sc' rA' rl' rc' mA' ml' mc' W (HPQ7.out.ext hb) HQV.out
     have cF1 := fun W (hb : Below w7.heap.size w7 W) => free_any p nA nl nc sA sl sc rA rl rc mA ml mc W (HP7.out.ext hb) HV.out
     have cF2 := fun W (hb : Below w7.heap.size w7 W) => free_any q nA' nl' nc' sA' sl' sc' rA' rl' rc' mA' ml' mc' W (HPQ7.out.ext hb) HQV.out
     rw [EN.out] at cE2 cN2 cY2 cF2
     rw [← HFR2.out] at cF2
     have CE1 := Lib.hid cE1; clear cE1
     have CE2 := Lib.hid cE2; clear cE2
     have CN1 := Lib.hid cN1; clear cN1
     have CN2 := Lib.hid cN2; clear cN2
     have CY1 := Lib.hid cY1; clear cY1
     have CY2 := Lib.hid cY2; clear cY2
     have CF1 := Lib.hid cF1; clear cF1
     have CF2 := Lib.hid cF2; clear cF2
     go_wp2_with fail
     go_fit (CE1.out _ HB.out); rintro e x1 ⟨eA,el,ec,rfl,hE,-,hb⟩
     have HE := Lib.hid hE; clear hE
     have HB' := Lib.hid (bel_trans HB.out hb)
     clear HB hb
     have HB := HB'
     clear HB'
     clear p0 p1 p2 p3 p4 p5
     clear r0 r1 r2 r3 r4 r5
     have hcx := HXO.out.bel HB.out
     obtain ⟨p0,p1,p2,p3,p4,p5⟩ := pcells hcx
     clear hcx
     have hcx := HYO.out.bel HB.out
     obtain ⟨r0,r1,r2,r3,r4,r5⟩ := pcells hcx
     clear hcx
     go_wp2_with fail
     go_fit (CE2.out _ HB.out); rintro e x2 ⟨gA,gl,gc,rfl,hG,-,hb⟩
     have hE2 := HE.out.ext hb
     have HG := Lib.hid hG; clear hG
     have HE2 := Lib.hid hE2; clear hE2
     have HB' := Lib.hid (bel_trans HB.out hb)
     clear HB hb
     have HB := HB'
     clear HB'
     clear p0 p1 p2 p3 p4 p5
     clear r0 r1 r2 r3 r4 r5
     have hcx := HXO.out.bel HB.out
     obtain ⟨p0,p1,p2,p3,p4,p5⟩ := pcells hcx
     clear hcx
     have hcx := HYO.out.bel HB.out
     obtain ⟨r0,r1,r2,r3,r4,r5⟩ := pcells hcx
     clear hcx
     go_wp2_with fail
     go_fit (CN1.out _ HB.out); rintro e x3 ⟨uA,ul,uc,rfl,hU,-,hb⟩
     have hE3 := HE2.out.ext hb
     have hG3 := HG.out.ext hb
     have HU := Lib.hid hU; clear hU
     have HE3 := Lib.hid hE3; clear hE3
     have HG3 := Lib.hid hG3; clear hG3
     have HB' := Lib.hid (bel_trans HB.out hb)
     clear HB hb
     have HB := HB'
     clear HB'
     clear p0 p1 p2 p3 p4 p5
     clear r0 r1 r2 r3 r4 r5
     have hcx := HXO.out.bel HB.out
     obtain ⟨p0,p1,p2,p3,p4,p5⟩ := pcells hcx
     clear hcx
     have hcx := HYO.out.bel HB.out
     obtain ⟨r0,r1,r2,r3,r4,r5⟩ := pcells hcx
     clear hcx
     go_wp2_with fail
     go_fit (CN2.out _ HB.out); rintro e x4 ⟨vA,vl,vc,rfl,hV9,-,hb⟩
     have hE4 := HE3.out.ext hb
     have hG4 := HG3.out.ext hb
     have hU4 := HU.out.ext hb
     have HV9 := Lib.hid hV9; clear hV9
     have HE4 := Lib.hid hE4; clear hE4
     have HG4 := Lib.hid hG4; clear hG4
     have HU4 := Lib.hid hU4; clear hU4
     have HB' := Lib.hid (bel_trans HB.out hb)
     clear HB hb
     have HB := HB'
     clear HB'
     clear p0 p1 p2 p3 p4 p5
     clear r0 r1 r2 r3 r4 r5
     have hcx := HXO.out.bel HB.out
     obtain ⟨p0,p1,p2,p3,p4,p5⟩ := pcells hcx
     clear hcx
     have hcx := HYO.out.bel HB.out
     obtain ⟨r0,r1,r2,r3,r4,r5⟩ := pcells hcx
     clear hcx
     have hgl : gl = el := by have h1 := HE4.out.len; have h2 := HG4.out.len; have := HZ2.out.elen; omega
     subst hgl
     have hul : ((ul : Int) != p.n) = false := by have h1 := HU4.out.len; have := (parts_law HPI.out).len; simp; omega
     have hvl : ((vl : Int) != p.n) = false := by have h1 := HV9.out.len; have := (parts_law HZ2.out.qi).len; have := EN.out; simp; omega
     have hec := HE4.out.cap
     have hem := HE4.out.max
     have hgc := HG4.out.cap
     have hgm := HG4.out.max
     have hQ4 := HQS7.out.ext HB.out
     clear HE HE2 HE3 HG HG3 HU
     have HQ4 := Lib.hid hQ4; clear hQ4
     go_wp2_with fail
     go_loopw [117] (fun t wr => ∃ i : Nat,i ≤ gl ∧ t = .int .i64 (i : Int) ∧ Below x4.heap.size x4 wr) (fun t _ => gl - (intOf t).toNat)
     case atStart => exact ⟨0,Nat.zero_le _,rfl,Below.refl _ _⟩
     case round =>
      obtain ⟨i,hi2,rfl,hB1⟩ := hrel
      obtain ⟨wd,rfl⟩ : ∃ wd : World,wd = wr := ⟨_,rfl⟩
      have i0 : (0 : Int) ≤ (i : Int) := by omega
      by_cases hlt : i < gl
      ·have i1 : (i : Int) < (gl : Int) := by omega
       have hE5 := HE4.out.ext hB1
       obtain ⟨x,hx,-⟩ := hE5.drop hlt
       obtain ⟨eb,eo,e1,_,f0,f1,g1,g2⟩ := hE5.pair hx
       cases e1
       obtain ⟨a,b⟩ := x
       simp only at f0 f1 g1 g2
       have hm := HZ2.out.mem (List.mem_of_getElem? hx)
       obtain ⟨an,rfl⟩ : ∃ n : Nat,a = (n : Int) + 1 := ⟨(a - 1).toNat,by omega⟩
       obtain ⟨bn,rfl⟩ : ∃ n : Nat,b = (n : Int) + 1 := ⟨(b - 1).toNat,by omega⟩
       have hfound := HZ2.out.found (List.mem_of_getElem? hx)
       have HE5 := Lib.hid hE5; clear hE5
       have HX := Lib.hid hx; clear hx
       have HB1 := Lib.hid hB1; clear hB1
       have HM := Lib.hid hm; clear hm
       have HFOUND := Lib.hid hfound; clear hfound
       obtain ⟨xk,hxk⟩ : ∃ xk,xk = wd.heap.size := ⟨_,rfl⟩
       have hbp := bel_alloc wd (.cells #[.int .i64 ((an : Int) + 1),.int .i64 ((bn : Int) + 1)] 38)
       have hxb : Blk (wd.alloc (.cells #[.int .i64 ((an : Int) + 1),.int .i64 ((bn : Int) + 1)] 38)) xk 38 #[.int .i64 ((an : Int) + 1),.int .i64 ((bn : Int) + 1)] := blk_new hxk.symm _ _
       obtain ⟨fa,pa1,pa2,-,pa3,pa4⟩ := HPMI.out.get (x := (an : Int) + 1) (by omega) (by have := HM.out; omega)
       obtain ⟨fb,pb1,pb2,-,pb3,pb4⟩ := HPMI.out.get (x := (bn : Int) + 1) (by omega) (by have := HM.out; omega)
       rw [show ((an : Int) + 1).toNat - 1 = an by omega] at pa1
       rw [show ((bn : Int) + 1).toNat - 1 = bn by omega] at pb1
       have hmv : mvE (mvI pm) ((an : Int) + 1,(bn : Int) + 1) = (fa,fb) := by show (mvI pm _,mvI pm _) = _; rw [pa2,pb2]
       have hfd := HFOUND.out
       rw [hmv] at hfd
       have hm2 := HM.out
       have aq0 : (0 : Int) ≤ (an : Int) := by omega
       have aq1 : (an : Int) < (ql : Int) := by have := HQLN.out; omega
       have bq0 : (0 : Int) ≤ (bn : Int) := by omega
       have bq1 : (bn : Int) < (ql : Int) := by have := HQLN.out; omega
       have HBP := Lib.hid hbp; clear hbp
       have HXB := Lib.hid hxb; clear hxb
       have PA1 := Lib.hid pa1; clear pa1
       have PB1 := Lib.hid pb1; clear pb1
       have HFD := Lib.hid hfd; clear hfd
       clear hm2 pa2 pb2 hmv
       go_wp2_with fail
       rw [← hxk]
       have HXK := Lib.hid hxk; clear hxk
       clear f0 f1
       generalize wd.alloc (.cells #[.int .i64 ((an : Int) + 1),.int .i64 ((bn : Int) + 1)] 38) = wx at *
       go_loopw [19,123] (fun v t wr => ∃ j : Nat,j ≤ gl ∧ t = .int .i64 (j : Int) ∧ v = .bool (((edgeL q).take j).any fun y => decide (y = (fa,fb))) ∧ Below wx.heap.size wx wr) (fun _ t _ => gl - (intOf t).toNat)
       case atStart => exact ⟨0,Nat.zero_le _,rfl,rfl,Below.refl _ _⟩
       case round =>
        obtain ⟨j,hj,rfl,rfl,hB2⟩ := hrel
        obtain ⟨we,rfl⟩ : ∃ we : World,we = wr := ⟨_,rfl⟩
        have j0 : (0 : Int) ≤ (j : Int) := by omega
        by_cases hlt2 : j < gl
        ·have j1 : (j : Int) < (gl : Int) := by omega
         have hbs := bel_trans (bel_trans HB1.out HBP.out) hB2
         have hG5 := HG4.out.ext hbs
         obtain ⟨y,hy,-⟩ := hG5.drop hlt2
         obtain ⟨yb,yo,e1,_,y0,y1,g3,g4⟩ := hG5.pair hy
         cases e1
         obtain ⟨y1v,y2v⟩ := y
         simp only at y0 y1 g3 g4
         have hnx : ((edgeL q).take (j + 1)).any (fun y => decide (y = (fa,fb))) = (((edgeL q).take j).any (fun y => decide (y = (fa,fb))) || decide ((y1v,y2v) = (fa,fb))) := by rw [take_snoc' hy,List.any_append]; simp
         generalize ((edgeL q).take j).any (fun y => decide (y = (fa,fb))) = ac at *
         have hbA := bel_alloc we (.cells #[.int .i64 y1v,.int .i64 y2v] 38)
         have hxb3 := HXB.out.bel (bel_trans hB2 hbA)
         have hQ5 := HQ4.out.ext (bel_trans hbs hbA)
         have hB3 := bel_trans hB2 hbA
         have hyb3 := Blk.new we 38 #[.int .i64 y1v,.int .i64 y2v]
         obtain ⟨yk,hyk⟩ : ∃ yk,yk = we.heap.size := ⟨_,rfl⟩
         have HBS := Lib.hid hbs; clear hbs
         have HG5 := Lib.hid hG5; clear hG5
         have HY := Lib.hid hy; clear hy
         have HNX := Lib.hid hnx; clear hnx
         have HBA := Lib.hid hbA; clear hbA
         have HXB3 := Lib.hid hxb3; clear hxb3
         have HQ5 := Lib.hid hQ5; clear hQ5
         have HB2 := Lib.hid hB2; clear hB2
         have HB3 := Lib.hid hB3; clear hB3
         have HYB3 := Lib.hid hyb3; clear hyb3
         cases ac with
         | true =>
          have HYK := Lib.hid hyk; clear hyk
          go_wp2_with fail
          go_quiet (fail)
          go_wp2_with fail
          go_roundw
          case rel => exact ⟨j + 1,by omega,by go_num,by rw [HNX.out]; rfl,below_drewN HB3.out _⟩
          case measure => simp [intOf]; omega
         | false =>
          obtain ⟨qb,qo,e1,_,q1,-⟩ := HQ5.out.int PA1.out
          cases e1
          obtain ⟨_,_,e1,_,q2,-⟩ := HQ5.out.int PB1.out
          cases e1
          obtain ⟨nb,hnb⟩ : ∃ nb,nb = decide ((y1v,y2v) = (fa,fb)) := ⟨_,rfl⟩
          have z1 : (an : Int) + 1 - 1 = (an : Int) := by omega
          have z2 : (bn : Int) + 1 - 1 = (bn : Int) := by omega
          have za : IntKind.i64.wrap (an : Int) = (an : Int) := IntWalk.i64_in _ (by have := HM.out; have := HQLN.out; omega)
          have zb : IntKind.i64.wrap (bn : Int) = (bn : Int) := IntWalk.i64_in _ (by have := HM.out; have := HQLN.out; omega)
          have hxb4 := HXB3.out
          have HNB := Lib.hid hnb; clear hnb
          have Q1 := Lib.hid q1; clear q1
          have Q2 := Lib.hid q2; clear q2
          have HXB4 := Lib.hid hxb4; clear hxb4
          go_wp2_with fail
          rw [← hyk]
          have hyb4 := HYB3.out
          rw [← hyk] at hyb4
          have HYK := Lib.hid hyk; clear hyk
          have HYB4 := Lib.hid hyb4; clear hyb4
          clear y0 y1
          have hB4 := HB3.out
          generalize we.alloc (.cells #[.int .i64 y1v,.int .i64 y2v] 38) = wq at *
          have HB4 := Lib.hid hB4; clear hB4
          refine wp_region_inv (fun listed a' w' => ∃ (b0 b1 b2 b3 b4 b5 b6 b7 b8 b9 b10 b11 b12 b13 b14 b15 b16 b17 b18 : Bool) (u127 u128 u129 u130 u131 u132 u133 u134 u135 u136 u137 u138 u139 u140 u141 u142 u143 u144 u19 : Value),listed = #[b0,b1,b2,b3,b4,b5,b6,b7,b8,b9,b10,b11,b12,b13,b14,b15,b16,b17,b18] ∧ a' = { tmps := #[.agg #[.int .i64 p.n,.slice nA nl nc,.slice sA sl sc,.slice rA rl rc,.slice mA ml mc],Value.int IntKind.u8 tn,.pointer (some ⟨w.heap.size,0,none⟩),undef,u4,.slice (some ⟨qb,qo,none⟩) ql qc,u6,.pointer (some ⟨w6.heap.size,0,none⟩),.int .i64 0,.slice (some ⟨eb,eo,none⟩) gl ec,.int .i64 0,.slice (some ⟨yb,yo,none⟩) gl gc,.int .i64 0,.slice uA ul uc,.int .i64 0,.slice vA vl vc,.int .i64 0,undef,.pointer (some ⟨xk,0,none⟩),u19,undef,.pointer (some ⟨yk,0,none⟩),undef,undef,undef,undef,undef,undef,undef,undef,undef,undef,.agg #[.int .i64 p.n,.slice nA nl nc,.slice sA sl sc,.slice rA rl rc,.slice mA ml mc],.bool true,.bool false,.bool false,.pointer (some ⟨w.heap.size,0,none⟩),.int .i64 p.n,.bool false,.bool false,undef,.pointer (some ⟨w.heap.size,0,none⟩),.int .i64 p.n,.int .i64 (ql : Int),.bool false,u45,u46,u47,u48,u49,u50,u51,u52,u53,u54,u55,u56,u57,Value.tuple #[.agg #[.int .i64 p.n,.slice nA' nl' nc',.slice sA' sl' sc',.slice rA' rl' rc',.slice mA' ml' mc'],.int .i64 0],.agg #[.int .i64 p.n,.slice nA nl nc,.slice sA sl sc,.slice rA rl rc,.slice mA ml mc],.slice (some ⟨qb,qo,none⟩) ql qc,Value.tuple #[.agg #[.int .i64 p.n,.slice nA' nl' nc',.slice sA' sl' sc',.slice rA' rl' rc',.slice mA' ml' mc'],.int .i64 0],.agg #[.int .i64 p.n,.slice nA' nl' nc',.slice sA' sl' sc',.slice rA' rl' rc',.slice mA' ml' mc'],.int .i64 0,Value.tuple #[.slice (some ⟨eb,eo,none⟩) gl ec,.int .i64 0],.agg #[.int .i64 p.n,.slice nA nl nc,.slice sA sl sc,.slice rA rl rc,.slice mA ml mc],Value.tuple #[.slice (some ⟨eb,eo,none⟩) gl ec,.int .i64 0],.slice (some ⟨eb,eo,none⟩) gl ec,.int .i64 0,Value.tuple #[.slice (some ⟨yb,yo,none⟩) gl gc,.int .i64 0],.agg #[.int .i64 p.n,.slice nA' nl' nc',.slice sA' sl' sc',.slice rA' rl' rc',.slice mA' ml' mc'],Value.tuple #[.slice (some ⟨yb,yo,none⟩) gl gc,.int .i64 0],.slice (some ⟨yb,yo,none⟩) gl gc,.int .i64 0,Value.tuple #[.slice uA ul uc,.int .i64 0],.agg #[.int .i64 p.n,.slice nA nl nc,.slice sA sl sc,.slice rA rl rc,.slice mA ml mc],Value.tuple #[.slice uA ul uc,.int .i64 0],.slice uA ul uc,.int .i64 0,Value.tuple #[.slice vA vl vc,.int .i64 0],.agg #[.int .i64 p.n,.slice nA' nl' nc',.slice sA' sl' sc',.slice rA' rl' rc',.slice mA' ml' mc'],Value.tuple #[.slice vA vl vc,.int .i64 0],.slice vA vl vc,.int .i64 0,.int .i64 0,.int .i64 0,.int .i64 0,.int .i64 0,.int .i64 0,.int .i64 0,.int .i64 0,.int .i64 0,.int .i64 0,.bool false,.bool false,.slice (some ⟨eb,eo,none⟩) gl ec,.int .i64 (gl : Int),.slice (some ⟨yb,yo,none⟩) gl gc,.int .i64 (gl : Int),.bool false,.bool false,.bool false,.slice uA ul uc,.int .i64 (ul : Int),.pointer (some ⟨w.heap.size,0,none⟩),.int .i64 p.n,.bool false,.bool false,.bool false,.slice vA vl vc,.int .i64 (vl : Int),.pointer (some ⟨w.heap.size,0,none⟩),.int .i64 p.n,.bool false,.bool false,.slice (some ⟨eb,eo,none⟩) gl ec,.int .i64 (gl : Int),.int .i64 (i : Int),.bool true,.pointer (some ⟨eb,eo + i * 2,none⟩),.agg #[.int .i64 ((an : Int) + 1),.int .i64 ((bn : Int) + 1)],.slice (some ⟨yb,yo,none⟩) gl gc,.int .i64 (gl : Int),.int .i64 (j : Int),.bool true,.pointer (some ⟨yb,yo + j * 2,none⟩),.agg #[.int .i64 y1v,.int .i64 y2v],u127,u128,u129,u130,u131,u132,u133,u134,u135,u136,u137,u138,u139,u140,u141,u142,u143,u144,u145,u146,u147,u148,undef,undef,undef,undef,undef,undef,undef,undef,undef,undef,undef,undef,undef,undef,undef,undef,undef,undef,undef,undef,undef,undef,undef,undef,undef,undef,undef,undef,undef,undef,undef,undef,undef,undef,undef,undef,undef,undef,undef,undef,undef,undef,undef,undef,undef,undef,undef,undef,undef,undef,undef,undef,undef,undef,undef,undef,undef,undef,undef,undef,undef,undef,undef,undef,undef,undef,undef,undef,undef,undef,undef,undef,undef,undef,undef,undef,undef,undef,undef,undef,undef,undef],defers := [] } ∧ (Below wq.heap.size wq w') ∧ (b0 = true → u127 = .bool false) ∧ (b1 = true → u128 = .bool false) ∧ (b2 = true → u129 = .agg #[.int .i64 y1v,.int .i64 y2v]) ∧ (b3 = true → u130 = .slice (some ⟨qb,qo,none⟩) ql qc) ∧ (b4 = true → u131 = .pointer (some ⟨xk,0,none⟩)) ∧ (b5 = true → u132 = .int .i64 ((an : Int) + 1)) ∧ (b6 = true → u133 = .int .i64 (an : Int)) ∧ (b7 = true → u134 = .pointer (some ⟨qb,qo + an,none⟩)) ∧ (b8 = true → u135 = .int .i64 fa) ∧ (b9 = true → u136 = .slice (some ⟨qb,qo,none⟩) ql qc) ∧ (b10 = true → u137 = .pointer (some ⟨xk,1,none⟩)) ∧ (b11 = true → u138 = .int .i64 ((bn : Int) + 1)) ∧ (b12 = true → u139 = .int .i64 (bn : Int)) ∧ (b13 = true → u140 = .pointer (some ⟨qb,qo + bn,none⟩)) ∧ (b14 = true → u141 = .int .i64 fb) ∧ (b15 = true → u142 = .agg #[.int .i64 fa,.int .i64 fb]) ∧ (b16 = true → u143 = .bool nb) ∧ (b17 = true → u144 = .bool nb) ∧ (b18 = true → u19 = .bool nb) ∧ (b18 = false → u19 = .bool false) ∧ (b1 = true → b0 = true) ∧ (b17 = true → b1 = true) ∧ (b18 = true → b17 = true)) (by kernel_rfl) ?start ?step ?_
          case start => exact ⟨false,false,false,false,false,false,false,false,false,false,false,false,false,false,false,false,false,false,false,_,_,_,_,_,_,_,_,_,_,_,_,_,_,_,_,_,_,_,rfl,rfl,(Below.refl _ _).drew,(by simp),(by simp),(by simp),(by simp),(by simp),(by simp),(by simp),(by simp),(by simp),(by simp),(by simp),(by simp),(by simp),(by simp),(by simp),(by simp),(by simp),(by simp),(by simp),(fun _ => rfl),(by simp),(by simp),(by simp)⟩
          case step =>
           rintro listed a' w' i o ⟨b0,b1,b2,b3,b4,b5,b6,b7,b8,b9,b10,b11,b12,b13,b14,b15,b16,b17,b18,u127,u128,u129,u130,u131,u132,u133,u134,u135,u136,u137,u138,u139,u140,u141,u142,u143,u144,u19,rfl,rfl,hB,f0,f1,f2,f3,f4,f5,f6,f7,f8,f9,f10,f11,f12,f13,f14,f15,f16,f17,f18,f19,c1,c17,c18⟩ ho hli hd K hK
           match i,ho,hli,hd with
           | 0,ho,hli,hd =>
            obtain rfl := Option.some.inj ho
            obtain rfl : b0 = false := hli
            have e1 : b1 = false := by
             cases hh : b1 with
             | false => rfl
             | true => have := c1 hh; cases this
            subst e1
            have e17 : b17 = false := by
             cases hh : b17 with
             | false => rfl
             | true => have := c17 hh; cases this
            subst e17
            have e18 : b18 = false := by
             cases hh : b18 with
             | false => rfl
             | true => have := c18 hh; cases this
            subst e18
            obtain rfl := f19 rfl
            have HH := Lib.hid (And.intro c1 (And.intro c17 (And.intro c18 f19)))
            clear c1 c17 c18 f19
            go_simp
            exact hK _ _ ⟨_,_,_,_,_,_,_,_,_,_,_,_,_,_,_,_,_,_,_,_,_,_,_,_,_,_,_,_,_,_,_,_,_,_,_,_,_,_,rfl,rfl,hB,(fun _ => rfl),f1,f2,f3,f4,f5,f6,f7,f8,f9,f10,f11,f12,f13,f14,f15,f16,f17,(fun e => by cases e),(fun _ => rfl),(fun e => by cases e),(fun e => by cases e),(fun e => by cases e)⟩
           | 1,ho,hli,hd =>
            obtain rfl := Option.some.inj ho
            obtain rfl : b1 = false := hli
            obtain rfl : b0 = true := hd ⟨0,.data⟩ (by simp) rfl
            obtain rfl := f0 rfl
            have e17 : b17 = false := by
             cases hh : b17 with
             | false => rfl
             | true => have := c17 hh; cases this
            subst e17
            have e18 : b18 = false := by
             cases hh : b18 with
             | false => rfl
             | true => have := c18 hh; cases this
            subst e18
            have HH := Lib.hid (And.intro c1 (And.intro c17 (And.intro c18 f19)))
            clear c1 c17 c18 f19
            go_simp
            exact hK _ _ ⟨_,_,_,_,_,_,_,_,_,_,_,_,_,_,_,_,_,_,_,_,_,_,_,_,_,_,_,_,_,_,_,_,_,_,_,_,_,_,rfl,rfl,hB,f0,(fun _ => rfl),f2,f3,f4,f5,f6,f7,f8,f9,f10,f11,f12,f13,f14,f15,f16,f17,(fun e => by cases e),HH.out.2.2.2,(fun _ => rfl),(fun e => by cases e),(fun e => by cases e)⟩
           | 2,ho,hli,hd =>
            obtain rfl := Option.some.inj ho
            obtain rfl : b2 = false := hli
            obtain rfl : b1 = true := hd ⟨1,.guard⟩ (by simp) rfl
            obtain rfl := f1 rfl
            have hm : w'.cell? ⟨yk,0,none⟩ = some (.int .i64 y1v) := (HYB4.out.bel hB).cell 0
            have hm2 : w'.cell? ⟨yk,1,none⟩ = some (.int .i64 y2v) := (HYB4.out.bel hB).cell 1
            have HH := Lib.hid (And.intro c1 (And.intro c17 (And.intro c18 f19)))
            clear c1 c17 c18 f19
            go_simp
            exact hK _ _ ⟨_,_,_,_,_,_,_,_,_,_,_,_,_,_,_,_,_,_,_,_,_,_,_,_,_,_,_,_,_,_,_,_,_,_,_,_,_,_,rfl,rfl,hB,f0,f1,(fun _ => rfl),f3,f4,f5,f6,f7,f8,f9,f10,f11,f12,f13,f14,f15,f16,f17,f18,HH.out.2.2.2,HH.out.1,HH.out.2.1,HH.out.2.2.1⟩
           | 3,ho,hli,hd =>
            obtain rfl := Option.some.inj ho
            obtain rfl : b3 = false := hli
            obtain rfl : b1 = true := hd ⟨1,.guard⟩ (by simp) rfl
            obtain rfl := f1 rfl
            have HH := Lib.hid (And.intro c1 (And.intro c17 (And.intro c18 f19)))
            clear c1 c17 c18 f19
            go_simp
            exact hK _ _ ⟨_,_,_,_,_,_,_,_,_,_,_,_,_,_,_,_,_,_,_,_,_,_,_,_,_,_,_,_,_,_,_,_,_,_,_,_,_,_,rfl,rfl,hB,f0,f1,f2,(fun _ => rfl),f4,f5,f6,f7,f8,f9,f10,f11,f12,f13,f14,f15,f16,f17,f18,HH.out.2.2.2,HH.out.1,HH.out.2.1,HH.out.2.2.1⟩
           | 4,ho,hli,hd =>
            obtain rfl := Option.some.inj ho
            obtain rfl : b4 = false := hli
            obtain rfl : b1 = true := hd ⟨1,.guard⟩ (by simp) rfl
            obtain rfl := f1 rfl
            have HH := Lib.hid (And.intro c1 (And.intro c17 (And.intro c18 f19)))
            clear c1 c17 c18 f19
            go_simp
            exact hK _ _ ⟨_,_,_,_,_,_,_,_,_,_,_,_,_,_,_,_,_,_,_,_,_,_,_,_,_,_,_,_,_,_,_,_,_,_,_,_,_,_,rfl,rfl,hB,f0,f1,f2,f3,(fun _ => rfl),f5,f6,f7,f8,f9,f10,f11,f12,f13,f14,f15,f16,f17,f18,HH.out.2.2.2,HH.out.1,HH.out.2.1,HH.out.2.2.1⟩
           | 5,ho,hli,hd =>
            obtain rfl := Option.some.inj ho
            obtain rfl : b5 = false := hli
            obtain rfl : b4 = true := hd ⟨4,.data⟩ (by simp) rfl
            obtain rfl : b1 = true := hd ⟨1,.guard⟩ (by simp) rfl
            obtain rfl := f1 rfl
            obtain rfl := f4 rfl
            have hm : w'.cell? ⟨xk,0,none⟩ = some (.int .i64 ((an : Int) + 1)) := (HXB4.out.bel hB).cell 0
            have HH := Lib.hid (And.intro c1 (And.intro c17 (And.intro c18 f19)))
            clear c1 c17 c18 f19
            go_simp
            exact hK _ _ ⟨_,_,_,_,_,_,_,_,_,_,_,_,_,_,_,_,_,_,_,_,_,_,_,_,_,_,_,_,_,_,_,_,_,_,_,_,_,_,rfl,rfl,hB,f0,f1,f2,f3,f4,(fun _ => rfl),f6,f7,f8,f9,f10,f11,f12,f13,f14,f15,f16,f17,f18,HH.out.2.2.2,HH.out.1,HH.out.2.1,HH.out.2.2.1⟩
           | 6,ho,hli,hd =>
            obtain rfl := Option.some.inj ho
            obtain rfl : b6 = false := hli
            obtain rfl : b5 = true := hd ⟨5,.data⟩ (by simp) rfl
            obtain rfl : b1 = true := hd ⟨1,.guard⟩ (by simp) rfl
            obtain rfl := f1 rfl
            obtain rfl := f5 rfl
            have HH := Lib.hid (And.intro c1 (And.intro c17 (And.intro c18 f19)))
            clear c1 c17 c18 f19
            go_simp
            exact hK _ _ ⟨_,_,_,_,_,_,_,_,_,_,_,_,_,_,_,_,_,_,_,_,_,_,_,_,_,_,_,_,_,_,_,_,_,_,_,_,_,_,rfl,rfl,hB,f0,f1,f2,f3,f4,f5,(fun _ => rfl),f7,f8,f9,f10,f11,f12,f13,f14,f15,f16,f17,f18,HH.out.2.2.2,HH.out.1,HH.out.2.1,HH.out.2.2.1⟩
           | 7,ho,hli,hd =>
            obtain rfl := Option.some.inj ho
            obtain rfl : b7 = false := hli
            obtain rfl : b3 = true := hd ⟨3,.data⟩ (by simp) rfl
            obtain rfl : b6 = true := hd ⟨6,.data⟩ (by simp) rfl
            obtain rfl : b1 = true := hd ⟨1,.guard⟩ (by simp) rfl
            obtain rfl := f1 rfl
            obtain rfl := f3 rfl
            obtain rfl := f6 rfl
            have HH := Lib.hid (And.intro c1 (And.intro c17 (And.intro c18 f19)))
            clear c1 c17 c18 f19
            go_simp
            exact hK _ _ ⟨_,_,_,_,_,_,_,_,_,_,_,_,_,_,_,_,_,_,_,_,_,_,_,_,_,_,_,_,_,_,_,_,_,_,_,_,_,_,rfl,rfl,hB,f0,f1,f2,f3,f4,f5,f6,(fun _ => rfl),f8,f9,f10,f11,f12,f13,f14,f15,f16,f17,f18,HH.out.2.2.2,HH.out.1,HH.out.2.1,HH.out.2.2.1⟩
           | 8,ho,hli,hd =>
            obtain rfl := Option.some.inj ho
            obtain rfl : b8 = false := hli
            obtain rfl : b7 = true := hd ⟨7,.data⟩ (by simp) rfl
            obtain rfl : b1 = true := hd ⟨1,.guard⟩ (by simp) rfl
            obtain rfl := f1 rfl
            obtain rfl := f7 rfl
            have hm : w'.cell? ⟨qb,qo + an,none⟩ = some (.int .i64 fa) := (hB.cell (World.block_lt_of_cell? _ _ Q1.out)).trans Q1.out
            have HH := Lib.hid (And.intro c1 (And.intro c17 (And.intro c18 f19)))
            clear c1 c17 c18 f19
            go_simp
            exact hK _ _ ⟨_,_,_,_,_,_,_,_,_,_,_,_,_,_,_,_,_,_,_,_,_,_,_,_,_,_,_,_,_,_,_,_,_,_,_,_,_,_,rfl,rfl,hB,f0,f1,f2,f3,f4,f5,f6,f7,(fun _ => rfl),f9,f10,f11,f12,f13,f14,f15,f16,f17,f18,HH.out.2.2.2,HH.out.1,HH.out.2.1,HH.out.2.2.1⟩
           | 9,ho,hli,hd =>
            obtain rfl := Option.some.inj ho
            obtain rfl : b9 = false := hli
            obtain rfl : b1 = true := hd ⟨1,.guard⟩ (by simp) rfl
            obtain rfl := f1 rfl
            have HH := Lib.hid (And.intro c1 (And.intro c17 (And.intro c18 f19)))
            clear c1 c17 c18 f19
            go_simp
            exact hK _ _ ⟨_,_,_,_,_,_,_,_,_,_,_,_,_,_,_,_,_,_,_,_,_,_,_,_,_,_,_,_,_,_,_,_,_,_,_,_,_,_,rfl,rfl,hB,f0,f1,f2,f3,f4,f5,f6,f7,f8,(fun _ => rfl),f10,f11,f12,f13,f14,f15,f16,f17,f18,HH.out.2.2.2,HH.out.1,HH.out.2.1,HH.out.2.2.1⟩
           | 10,ho,hli,hd =>
            obtain rfl := Option.some.inj ho
            obtain rfl : b10 = false := hli
            obtain rfl : b1 = true := hd ⟨1,.guard⟩ (by simp) rfl
            obtain rfl := f1 rfl
            have HH := Lib.hid (And.intro c1 (And.intro c17 (And.intro c18 f19)))
            clear c1 c17 c18 f19
            go_simp
            exact hK _ _ ⟨_,_,_,_,_,_,_,_,_,_,_,_,_,_,_,_,_,_,_,_,_,_,_,_,_,_,_,_,_,_,_,_,_,_,_,_,_,_,rfl,rfl,hB,f0,f1,f2,f3,f4,f5,f6,f7,f8,f9,(fun _ => rfl),f11,f12,f13,f14,f15,f16,f17,f18,HH.out.2.2.2,HH.out.1,HH.out.2.1,HH.out.2.2.1⟩
           | 11,ho,hli,hd =>
            obtain rfl := Option.some.inj ho
            obtain rfl : b11 = false := hli
            obtain rfl : b10 = true := hd ⟨10,.data⟩ (by simp) rfl
            obtain rfl : b1 = true := hd ⟨1,.guard⟩ (by simp) rfl
            obtain rfl := f1 rfl
            obtain rfl := f10 rfl
            have hm : w'.cell? ⟨xk,1,none⟩ = some (.int .i64 ((bn : Int) + 1)) := (HXB4.out.bel hB).cell 1
            have HH := Lib.hid (And.intro c1 (And.intro c17 (And.intro c18 f19)))
            clear c1 c17 c18 f19
            go_simp
            exact hK _ _ ⟨_,_,_,_,_,_,_,_,_,_,_,_,_,_,_,_,_,_,_,_,_,_,_,_,_,_,_,_,_,_,_,_,_,_,_,_,_,_,rfl,rfl,hB,f0,f1,f2,f3,f4,f5,f6,f7,f8,f9,f10,(fun _ => rfl),f12,f13,f14,f15,f16,f17,f18,HH.out.2.2.2,HH.out.1,HH.out.2.1,HH.out.2.2.1⟩
           | 12,ho,hli,hd =>
            obtain rfl := Option.some.inj ho
            obtain rfl : b12 = false := hli
            obtain rfl : b11 = true := hd ⟨11,.data⟩ (by simp) rfl
            obtain rfl : b1 = true := hd ⟨1,.guard⟩ (by simp) rfl
            obtain rfl := f1 rfl
            obtain rfl := f11 rfl
            have HH := Lib.hid (And.intro c1 (And.intro c17 (And.intro c18 f19)))
            clear c1 c17 c18 f19
            go_simp
            exact hK _ _ ⟨_,_,_,_,_,_,_,_,_,_,_,_,_,_,_,_,_,_,_,_,_,_,_,_,_,_,_,_,_,_,_,_,_,_,_,_,_,_,rfl,rfl,hB,f0,f1,f2,f3,f4,f5,f6,f7,f8,f9,f10,f11,(fun _ => rfl),f13,f14,f15,f16,f17,f18,HH.out.2.2.2,HH.out.1,HH.out.2.1,HH.out.2.2.1⟩
           | 13,ho,hli,hd =>
            obtain rfl := Option.some.inj ho
            obtain rfl : b13 = false := hli
            obtain rfl : b9 = true := hd ⟨9,.data⟩ (by simp) rfl
            obtain rfl : b12 = true := hd ⟨12,.data⟩ (by simp) rfl
            obtain rfl : b1 = true := hd ⟨1,.guard⟩ (by simp) rfl
            obtain rfl := f1 rfl
            obtain rfl := f9 rfl
            obtain rfl := f12 rfl
            have HH := Lib.hid (And.intro c1 (And.intro c17 (And.intro c18 f19)))
            clear c1 c17 c18 f19
            go_simp
            exact hK _ _ ⟨_,_,_,_,_,_,_,_,_,_,_,_,_,_,_,_,_,_,_,_,_,_,_,_,_,_,_,_,_,_,_,_,_,_,_,_,_,_,rfl,rfl,hB,f0,f1,f2,f3,f4,f5,f6,f7,f8,f9,f10,f11,f12,(fun _ => rfl),f14,f15,f16,f17,f18,HH.out.2.2.2,HH.out.1,HH.out.2.1,HH.out.2.2.1⟩
           | 14,ho,hli,hd =>
            obtain rfl := Option.some.inj ho
            obtain rfl : b14 = false := hli
            obtain rfl : b13 = true := hd ⟨13,.data⟩ (by simp) rfl
            obtain rfl : b1 = true := hd ⟨1,.guard⟩ (by simp) rfl
            obtain rfl := f1 rfl
            obtain rfl := f13 rfl
            have hm : w'.cell? ⟨qb,qo + bn,none⟩ = some (.int .i64 fb) := (hB.cell (World.block_lt_of_cell? _ _ Q2.out)).trans Q2.out
            have HH := Lib.hid (And.intro c1 (And.intro c17 (And.intro c18 f19)))
            clear c1 c17 c18 f19
            go_simp
            exact hK _ _ ⟨_,_,_,_,_,_,_,_,_,_,_,_,_,_,_,_,_,_,_,_,_,_,_,_,_,_,_,_,_,_,_,_,_,_,_,_,_,_,rfl,rfl,hB,f0,f1,f2,f3,f4,f5,f6,f7,f8,f9,f10,f11,f12,f13,(fun _ => rfl),f15,f16,f17,f18,HH.out.2.2.2,HH.out.1,HH.out.2.1,HH.out.2.2.1⟩
           | 15,ho,hli,hd =>
            obtain rfl := Option.some.inj ho
            obtain rfl : b15 = false := hli
            obtain rfl : b8 = true := hd ⟨8,.data⟩ (by simp) rfl
            obtain rfl : b14 = true := hd ⟨14,.data⟩ (by simp) rfl
            obtain rfl : b1 = true := hd ⟨1,.guard⟩ (by simp) rfl
            obtain rfl := f1 rfl
            obtain rfl := f8 rfl
            obtain rfl := f14 rfl
            have HH := Lib.hid (And.intro c1 (And.intro c17 (And.intro c18 f19)))
            clear c1 c17 c18 f19
            go_simp
            exact hK _ _ ⟨_,_,_,_,_,_,_,_,_,_,_,_,_,_,_,_,_,_,_,_,_,_,_,_,_,_,_,_,_,_,_,_,_,_,_,_,_,_,rfl,rfl,hB,f0,f1,f2,f3,f4,f5,f6,f7,f8,f9,f10,f11,f12,f13,f14,(fun _ => rfl),f16,f17,f18,HH.out.2.2.2,HH.out.1,HH.out.2.1,HH.out.2.2.1⟩
           | 16,ho,hli,hd =>
            obtain rfl := Option.some.inj ho
            obtain rfl : b16 = false := hli
            obtain rfl : b2 = true := hd ⟨2,.data⟩ (by simp) rfl
            obtain rfl : b15 = true := hd ⟨15,.data⟩ (by simp) rfl
            obtain rfl : b1 = true := hd ⟨1,.guard⟩ (by simp) rfl
            obtain rfl := f1 rfl
            obtain rfl := f2 rfl
            obtain rfl := f15 rfl
            have heq := eq_pair y1v y2v fa fb
            rw [← HNB.out] at heq
            have HH := Lib.hid (And.intro c1 (And.intro c17 (And.intro c18 f19)))
            clear c1 c17 c18 f19
            go_simp
            exact hK _ _ ⟨_,_,_,_,_,_,_,_,_,_,_,_,_,_,_,_,_,_,_,_,_,_,_,_,_,_,_,_,_,_,_,_,_,_,_,_,_,_,rfl,rfl,hB,f0,f1,f2,f3,f4,f5,f6,f7,f8,f9,f10,f11,f12,f13,f14,f15,(fun _ => rfl),f17,f18,HH.out.2.2.2,HH.out.1,HH.out.2.1,HH.out.2.2.1⟩
           | 17,ho,hli,hd =>
            obtain rfl := Option.some.inj ho
            obtain rfl : b17 = false := hli
            obtain rfl : b1 = true := hd ⟨1,.data⟩ (by simp) rfl
            obtain rfl : b16 = true := hd ⟨16,.data⟩ (by simp) rfl
            obtain rfl := f1 rfl
            obtain rfl := f16 rfl
            have e18 : b18 = false := by
             cases hh : b18 with
             | false => rfl
             | true => have := c18 hh; cases this
            subst e18
            have HH := Lib.hid (And.intro c1 (And.intro c17 (And.intro c18 f19)))
            clear c1 c17 c18 f19
            go_simp
            exact hK _ _ ⟨_,_,_,_,_,_,_,_,_,_,_,_,_,_,_,_,_,_,_,_,_,_,_,_,_,_,_,_,_,_,_,_,_,_,_,_,_,_,rfl,rfl,hB,f0,f1,f2,f3,f4,f5,f6,f7,f8,f9,f10,f11,f12,f13,f14,f15,f16,(fun _ => rfl),(fun e => by cases e),HH.out.2.2.2,HH.out.1,(fun _ => rfl),(fun e => by cases e)⟩
           | 18,ho,hli,hd =>
            obtain rfl := Option.some.inj ho
            obtain rfl : b18 = false := hli
            obtain rfl : b17 = true := hd ⟨17,.data⟩ (by simp) rfl
            obtain rfl := f17 rfl
            have HH := Lib.hid (And.intro c1 (And.intro c17 (And.intro c18 f19)))
            clear c1 c17 c18 f19
            go_simp
            exact hK _ _ ⟨_,_,_,_,_,_,_,_,_,_,_,_,_,_,_,_,_,_,_,_,_,_,_,_,_,_,_,_,_,_,_,_,_,_,_,_,_,_,rfl,rfl,hB,f0,f1,f2,f3,f4,f5,f6,f7,f8,f9,f10,f11,f12,f13,f14,f15,f16,f17,(fun _ => rfl),(fun e => by cases e),HH.out.1,HH.out.2.1,(fun _ => rfl)⟩
           | i + 19,ho,hli,hd => simp at ho
          rintro listed a' w' ⟨b0,b1,b2,b3,b4,b5,b6,b7,b8,b9,b10,b11,b12,b13,b14,b15,b16,b17,b18,u127,u128,u129,u130,u131,u132,u133,u134,u135,u136,u137,u138,u139,u140,u141,u142,u143,u144,u19,rfl,rfl,hB,f0,f1,f2,f3,f4,f5,f6,f7,f8,f9,f10,f11,f12,f13,f14,f15,f16,f17,f18,f19,c1,c17,c18⟩ hr
          obtain rfl : b0 = true := ready_nil hr (i := 0) rfl (by first | (simp; done) | (simp; intro q; exact absurd q (by decide)))
          obtain rfl : b1 = true := ready_nil hr (i := 1) rfl (by first | (simp; done) | (simp; intro q; exact absurd q (by decide)))
          obtain rfl : b2 = true := ready_nil hr (i := 2) rfl (by first | (simp; done) | (simp; intro q; exact absurd q (by decide)))
          obtain rfl : b3 = true := ready_nil hr (i := 3) rfl (by first | (simp; done) | (simp; intro q; exact absurd q (by decide)))
          obtain rfl : b4 = true := ready_nil hr (i := 4) rfl (by first | (simp; done) | (simp; intro q; exact absurd q (by decide)))
          obtain rfl : b5 = true := ready_nil hr (i := 5) rfl (by first | (simp; done) | (simp; intro q; exact absurd q (by decide)))
          obtain rfl : b6 = true := ready_nil hr (i := 6) rfl (by first | (simp; done) | (simp; intro q; exact absurd q (by decide)))
          obtain rfl : b7 = true := ready_nil hr (i := 7) rfl (by first | (simp; done) | (simp; intro q; exact absurd q (by decide)))
          obtain rfl : b8 = true := ready_nil hr (i := 8) rfl (by first | (simp; done) | (simp; intro q; exact absurd q (by decide)))
          obtain rfl : b9 = true := ready_nil hr (i := 9) rfl (by first | (simp; done) | (simp; intro q; exact absurd q (by decide)))
          obtain rfl : b10 = true := ready_nil hr (i := 10) rfl (by first | (simp; done) | (simp; intro q; exact absurd q (by decide)))
          obtain rfl : b11 = true := ready_nil hr (i := 11) rfl (by first | (simp; done) | (simp; intro q; exact absurd q (by decide)))
          obtain rfl : b12 = true := ready_nil hr (i := 12) rfl (by first | (simp; done) | (simp; intro q; exact absurd q (by decide)))
          obtain rfl : b13 = true := ready_nil hr (i := 13) rfl (by first | (simp; done) | (simp; intro q; exact absurd q (by decide)))
          obtain rfl : b14 = true := ready_nil hr (i := 14) rfl (by first | (simp; done) | (simp; intro q; exact absurd q (by decide)))
          obtain rfl : b15 = true := ready_nil hr (i := 15) rfl (by first | (simp; done) | (simp; intro q; exact absurd q (by decide)))
          obtain rfl : b16 = true := ready_nil hr (i := 16) rfl (by first | (simp; done) | (simp; intro q; exact absurd q (by decide)))
          obtain rfl : b17 = true := ready_nil hr (i := 17) rfl (by first | (simp; done) | (simp; intro q; exact absurd q (by decide)))
          obtain rfl : b18 = true := ready_nil hr (i := 18) rfl (by first | (simp; done) | (simp; intro q; exact absurd q (by decide)))
          clear hr
          obtain rfl := f18 rfl
          clear f0 f1 f2 f3 f4 f5 f6 f7 f8 f9 f10 f11 f12 f13 f14 f15 f16 f17 f18 f19 c1 c17 c18
          have hB9 := bel_trans HB4.out hB
          have HB9 := Lib.hid hB9; clear hB9
          go_wp2_with fail
          go_roundw
          case rel => exact ⟨j + 1,by omega,by go_num,by rw [HNX.out,← HNB.out]; rfl,HB9.out⟩
          case measure => simp [intOf]; omega
        ·have hje : gl = j := by omega
         subst hje
         have j1 : ¬ (gl : Int) < (gl : Int) := by omega
         have hall : (((edgeL q).take gl).any fun y => decide (y = (fa,fb))) = true := by
          rw [List.take_of_length_le (by have := HG4.out.len; omega),List.any_eq_true]
          exact ⟨_,HFD.out,by simp⟩
         rw [hall]
         have hb9 := bel_trans (bel_trans HB1.out HBP.out) hB2
         have HB2 := Lib.hid hB2; clear hB2
         have HALL := Lib.hid hall; clear hall
         have HB9 := Lib.hid hb9; clear hb9
         go_wp2_with fail
         go_roundw
         case rel => exact ⟨i + 1,by omega,by go_num,HB9.out⟩
         case measure => simp [intOf]; omega
      ·have hie : gl = i := by omega
       subst hie
       have i1 : ¬ (gl : Int) < (gl : Int) := by omega
       have hulE := HU4.out.len
       have hvlE := HV9.out.len
       have huc := HU4.out.cap
       have hum := HU4.out.max
       have hvc := HV9.out.cap
       have hvm := HV9.out.max
       have hun : (ul : Int) = p.n := by have := (parts_law HPI.out).len; omega
       have hvn : (vl : Int) = p.n := by have := (parts_law HZ2.out.qi).len; have := EN.out; omega
       have hul12 : ul ≤ 12 := by omega
       have huv : vl = ul := by omega
       subst huv
       have hqv2 : ql = vl := by have := HQLN.out; omega
       have HB1 := Lib.hid hB1; clear hB1
       have HULE := Lib.hid hulE; clear hulE
       have HVLE := Lib.hid hvlE; clear hvlE
       have HUN := Lib.hid hun; clear hun
       have HVN := Lib.hid hvn; clear hvn
       have HQV2 := Lib.hid hqv2; clear hqv2
       go_wp2_with fail
       go_loopw [151] (fun t wr => ∃ i : Nat,i ≤ vl ∧ t = .int .i64 (i : Int) ∧ Below x4.heap.size x4 wr) (fun t _ => vl - (intOf t).toNat)
       case atStart => exact ⟨0,Nat.zero_le _,rfl,HB1.out⟩
       case round =>
        obtain ⟨i,hi2,rfl,hB2⟩ := hrel
        obtain ⟨wd,rfl⟩ : ∃ wd : World,wd = wr := ⟨_,rfl⟩
        have a0 : (0 : Int) ≤ (i : Int) := by omega
        by_cases hlt : i < vl
        ·have a1 : (i : Int) < (vl : Int) := by omega
         have HB2 := Lib.hid hB2; clear hB2
         go_wp2_with fail
         go_loopw [156] (fun t wr => ∃ j : Nat,j ≤ vl ∧ t = .int .i64 (j : Int) ∧ Below x4.heap.size x4 wr) (fun t _ => vl - (intOf t).toNat)
         case atStart => exact ⟨0,Nat.zero_le _,rfl,HB2.out⟩
         case round =>
          obtain ⟨j,hj2,rfl,hB3⟩ := hrel
          obtain ⟨we,rfl⟩ : ∃ we : World,we = wr := ⟨_,rfl⟩
          have b0 : (0 : Int) ≤ (j : Int) := by omega
          by_cases hlt3 : j < vl
          ·have b1 : (j : Int) < (vl : Int) := by omega
           have a2 : (i : Int) < (ql : Int) := by have := HQV2.out; omega
           have b2 : (j : Int) < (ql : Int) := by have := HQV2.out; omega
           have hU5 := HU4.out.ext hB3
           have hV5 := HV9.out.ext hB3
           have hQ5 := HQ4.out.ext hB3
           obtain ⟨fi,pa1,pa2,-,pa3,pa4⟩ := HPMI.out.get (x := (i : Int) + 1) (by omega) (by have := HUN.out; omega)
           obtain ⟨fj,pb1,pb2,-,pb3,pb4⟩ := HPMI.out.get (x := (j : Int) + 1) (by omega) (by have := HUN.out; omega)
           rw [show ((i : Int) + 1).toNat - 1 = i by omega] at pa1
           rw [show ((j : Int) + 1).toNat - 1 = j by omega] at pb1
           obtain ⟨fin,rfl⟩ : ∃ n : Nat,fi = (n : Int) + 1 := ⟨(fi - 1).toNat,by omega⟩
           obtain ⟨fjn,rfl⟩ : ∃ n : Nat,fj = (n : Int) + 1 := ⟨(fj - 1).toNat,by omega⟩
           have c0 : (0 : Int) ≤ (fin : Int) := by omega
           have c1 : (fin : Int) < (vl : Int) := by have := HUN.out; omega
           have d0 : (0 : Int) ≤ (fjn : Int) := by omega
           have d1 : (fjn : Int) < (vl : Int) := by have := HUN.out; omega
           have c2 : (fin : Int) + 1 - 1 = (fin : Int) := by omega
           have d2 : (fjn : Int) + 1 - 1 = (fjn : Int) := by omega
           obtain ⟨qb,qo,e1,_,q1,-⟩ := hQ5.int pa1
           cases e1
           obtain ⟨_,_,e1,_,q2,-⟩ := hQ5.int pb1
           cases e1
           obtain ⟨u1,hu1,-⟩ := hU5.drop hlt
           obtain ⟨u2,hu2,-⟩ := hU5.drop hlt3
           obtain ⟨v1,hv1,-⟩ := hV5.drop (show fin < vl by omega)
           obtain ⟨v2,hv2,-⟩ := hV5.drop (show fjn < vl by omega)
           obtain ⟨_,_,e1,_,m1,-⟩ := hU5.int hu1
           cases e1
           obtain ⟨_,_,e1,_,m2,-⟩ := hU5.int hu2
           cases e1
           obtain ⟨_,_,e1,_,m3,-⟩ := hV5.int hv1
           cases e1
           obtain ⟨_,_,e1,_,m4,-⟩ := hV5.int hv2
           cases e1
           have hzz : ∀ (l : List Int) (k : Nat) (y : Int),l[k]? = some y → nthZ l ((k : Int) + 1 - 1) = y := fun l k y h => by
            unfold nthZ
            rw [show ((k : Int) + 1 - 1).toNat = k by omega,List.getD_eq_getElem?_getD,h]; rfl
           have hnn := HZ2.out.nums (a := (i : Int) + 1) (b := (j : Int) + 1) (by omega) (by have := HUN.out; omega) (by omega) (by have := HUN.out; omega)
           rw [pa2,pb2,hzz _ _ _ hu1,hzz _ _ _ hu2,hzz _ _ _ hv1,hzz _ _ _ hv2] at hnn
           have hbb : (u1 == u2) = (v1 == v2) := by rw [Bool.eq_iff_iff,beq_iff_eq,beq_iff_eq]; exact hnn
           have hbb2 : ((u1 == u2) != (v1 == v2)) = false := by rw [hbb]; simp
           clear hzz hnn pa2 pb2 pa3 pa4 pb3 pb4
           by_cases he : u1 = u2
           ·have h1 : (u1 == u2) = true := by simpa using he
            have h2 : (v1 == v2) = true := by rw [← hbb]; exact h1
            have he2 : v1 = v2 := by simpa using h2
            subst he he2
            clear hbb hbb2 h1 h2
            have HU5 := Lib.hid hU5; clear hU5
            have HV5 := Lib.hid hV5; clear hV5
            have HQ5 := Lib.hid hQ5; clear hQ5
            have HU1 := Lib.hid hu1; clear hu1
            have HU2 := Lib.hid hu2; clear hu2
            have HV1 := Lib.hid hv1; clear hv1
            have HV2 := Lib.hid hv2; clear hv2
            have HB3 := Lib.hid hB3; clear hB3
            have PA1 := Lib.hid pa1; clear pa1
            have PB1 := Lib.hid pb1; clear pb1
            go_wp2_with fail
            go_quiet (fail)
            go_wp2_with fail
            go_roundw
            case rel => exact ⟨j + 1,by omega,by go_num,below_drewN HB3.out _⟩
            case measure => simp [intOf]; omega
           ·have h1 : (u1 == u2) = false := by simpa using he
            have h2 : (v1 == v2) = false := by rw [← hbb]; exact h1
            clear hbb hbb2
            have HU5 := Lib.hid hU5; clear hU5
            have HV5 := Lib.hid hV5; clear hV5
            have HQ5 := Lib.hid hQ5; clear hQ5
            have HU1 := Lib.hid hu1; clear hu1
            have HU2 := Lib.hid hu2; clear hu2
            have HV1 := Lib.hid hv1; clear hv1
            have HV2 := Lib.hid hv2; clear hv2
            have HB3 := Lib.hid hB3; clear hB3
            have PA1 := Lib.hid pa1; clear pa1
            have PB1 := Lib.hid pb1; clear pb1
            go_wp2_with fail
            go_quiet (fail)
            go_wp2_with fail
            go_roundw
            case rel => exact ⟨j + 1,by omega,by go_num,below_drewN HB3.out _⟩
            case measure => simp [intOf]; omega
          ·have hje : vl = j := by omega
           subst hje
           have b1 : ¬ (vl : Int) < (vl : Int) := by omega
           have HB3 := Lib.hid hB3; clear hB3
           go_wp2_with fail
           go_roundw
           case rel => exact ⟨i + 1,by omega,by go_num,HB3.out⟩
           case measure => simp [intOf]; omega
        ·have hie : vl = i := by omega
         subst hie
         have a1 : ¬ (vl : Int) < (vl : Int) := by omega
         have hb := hB2
         clear hB2
         obtain ⟨p0,p1,p2,p3,p4,p5⟩ := pcells HXO.out
         obtain ⟨r0,r1,r2,r3,r4,r5⟩ := pcells HYO.out
         have HB' := Lib.hid (bel_trans HB.out hb)
         clear HB hb
         have HB := HB'
         clear HB'
         clear p0 p1 p2 p3 p4 p5
         clear r0 r1 r2 r3 r4 r5
         have hcx := HXO.out.bel HB.out
         obtain ⟨p0,p1,p2,p3,p4,p5⟩ := pcells hcx
         clear hcx
         have hcx := HYO.out.bel HB.out
         obtain ⟨r0,r1,r2,r3,r4,r5⟩ := pcells hcx
         clear hcx
         go_wp2_with fail
         clear a1
         go_fit (CY1.out _ HB.out); rintro e wf ⟨cA,cl,cc,rfl,hC,-,hb⟩
         have HC := Lib.hid hC; clear hC
         have HB' := Lib.hid (bel_trans HB.out hb)
         clear HB hb
         have HB := HB'
         clear HB'
         clear p0 p1 p2 p3 p4 p5
         clear r0 r1 r2 r3 r4 r5
         have hcx := HXO.out.bel HB.out
         obtain ⟨p0,p1,p2,p3,p4,p5⟩ := pcells hcx
         clear hcx
         have hcx := HYO.out.bel HB.out
         obtain ⟨r0,r1,r2,r3,r4,r5⟩ := pcells hcx
         clear hcx
         go_wp2_with fail
         go_fit (CY2.out _ HB.out); rintro e wg ⟨dA,dl,dc,rfl,hD,-,hb⟩
         have hC2 := HC.out.ext hb
         have HD := Lib.hid hD; clear hD
         have HC2 := Lib.hid hC2; clear hC2
         have HB' := Lib.hid (bel_trans HB.out hb)
         clear HB hb
         have HB := HB'
         clear HB'
         clear p0 p1 p2 p3 p4 p5
         clear r0 r1 r2 r3 r4 r5
         have hcx := HXO.out.bel HB.out
         obtain ⟨p0,p1,p2,p3,p4,p5⟩ := pcells hcx
         clear hcx
         have hcx := HYO.out.bel HB.out
         obtain ⟨r0,r1,r2,r3,r4,r5⟩ := pcells hcx
         clear hcx
         have hcd : dl = cl := by have h1 := HC2.out.len; have h2 := HD.out.len; have := HZ2.out.clen; omega
         subst hcd
         go_wp2_with fail
         go_fit (CF1.out _ HB.out); rintro e wh ⟨rfl,hb⟩
         have HB' := Lib.hid (bel_trans HB.out hb)
         clear HB hb
         have HB := HB'
         clear HB'
         clear p0 p1 p2 p3 p4 p5
         clear r0 r1 r2 r3 r4 r5
         have hcx := HXO.out.bel HB.out
         obtain ⟨p0,p1,p2,p3,p4,p5⟩ := pcells hcx
         clear hcx
         have hcx := HYO.out.bel HB.out
         obtain ⟨r0,r1,r2,r3,r4,r5⟩ := pcells hcx
         clear hcx
         go_wp2_with fail
         go_fit (CF2.out _ HB.out); rintro e wj ⟨rfl,hb⟩
         have HB' := Lib.hid (bel_trans HB.out hb)
         clear HB hb
         have HB := HB'
         clear HB'
         clear p0 p1 p2 p3 p4 p5
         clear r0 r1 r2 r3 r4 r5
         have hcx := HXO.out.bel HB.out
         obtain ⟨p0,p1,p2,p3,p4,p5⟩ := pcells hcx
         clear hcx
         have hcx := HYO.out.bel HB.out
         obtain ⟨r0,r1,r2,r3,r4,r5⟩ := pcells hcx
         clear hcx
         have hbz := bel_trans HBW7.out HB.out
         have HBZ := Lib.hid hbz; clear hbz
         go_wp2_with fail
         go_fit (CA.out _); rintro e wz ⟨rfl,hb⟩
         have HB11 := Lib.hid (bel_trans HBZ.out hb)
         clear hb
         go_wp2_with fail
         go_ret
         exact ⟨rfl,HB11.out⟩
end Go.Proofs.YtbfbkpoakmnlpaaGreat

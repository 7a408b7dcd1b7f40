/- Rd7 -/
import Derived.Test.YthdjkenhkedjjaaGreatG4
import Derived.Deep.RegionWith
set_option maxRecDepth 100000
set_option maxHeartbeats 2000000
namespace Go.Proofs.YthdjkenhkedjjaaGreat
open Go.RowKit
def wOut (y:Int):Bool:=decide (y<0) || decide (1048576<y)
theorem bodyW_any (x:Int)(w:World):
  Calls Tryz.prog 76 #[.int .i64 x] w fun e w'=>e=.returned (.bool (wOut x))∧w=w':=by
 go_enter Tryz.func76,Tryz.ntmps76;go_wp2
 all_goals go_ret
 all_goals exact⟨ret_bool (by unfold wOut;first | rfl | (rw[Bool.eq_iff_iff];simp;done) | (rw[Bool.eq_iff_iff];simp;omega)),rfl⟩
def badB (r:GRule):Bool:=decide (8000<r.body.length) || (decide ((0:Int)∈r.body) || (decide ((-9223372036854775808:Int)∈r.body) || (r.sum && decide (r.w.length≠r.body.length))))
def bodyC (r:GRule)(m:LI):Bool:=!badB r && (!(r.sum && r.w.any wOut) && bodyB r m)
theorem sum_le_mul:∀(l:LI),(∀y∈l,y≤1048576)→l.sum≤1048576*(l.length:Int)
 |[],_=>by simp
 |y::r,h=>by
  have h1:=h y (by simp);have h2:=sum_le_mul r fun z hz=>h z (by simp[hz]);rw[List.sum_cons,List.length_cons,Int.natCast_add,Int.mul_add];omega
theorem bodyC_ok {r:GRule}(h1:badB r=false)(h2:(r.sum && r.w.any wOut)=false)(hx:∀x∈r.body,I64 x):BodyOk r:=by
 unfold badB at h1;simp only[Bool.or_eq_false_iff,decide_eq_false_iff_not,Bool.and_eq_false_imp]at h1
 obtain⟨h3,h4,h5,h6⟩:=h1
 have h7:r.sum=true→∀y∈r.w,0≤y∧y≤1048576:=fun hs y hy=>by
  rw[hs,Bool.true_and,List.any_eq_false]at h2
  have:=h2 y hy
  unfold wOut at this;simp at this;omega
 have h8:r.sum=true→r.w.length=r.body.length:=fun hs=>by
  have:=h6 hs;simpa using this
 refine⟨fun x hm=>?_,h8,fun hs y hy=>(h7 hs y hy).1,fun hs=>?_⟩
 ·have:=(hx x hm).1
  have:x≠-9223372036854775808:=fun e=>h5 (e ▸ hm)
  omega
 ·have h9:=sum_le_mul r.w fun y hy=>(h7 hs y hy).2
  have:=h8 hs
  omega
theorem SlIs.all64 {w:World}{A:OA}{l c:Nat}{xs:LI}(h:SlIs intR w A l c xs):∀x∈xs,I64 x:=fun x hx=>by
 obtain⟨k,hk⟩:=List.getElem?_of_mem hx
 exact(h.int hk).choose_spec.choose_spec.2.2.2
theorem bodyOut_any (r:GRule)(hA:OA)(hl hc:Nat)(bA:OA)(bl bc:Nat)(wA:OA)(wl wc:Nat)(mA:OA)(ml mc:Nat)(ms:LI)(w:World)(hr:RuleIn w r hA hl hc bA bl bc wA wl wc)(hm:SlIs intR w mA ml mc ms):
  Calls Tryz.prog 33 #[.agg #[.bool r.choice,.slice hA hl hc,.bool r.sum,.int .i64 r.bound,.slice bA bl bc,.slice wA wl wc],.slice mA ml mc] w fun e w'=>e=.returned (.bool (bodyC r ms))∧Below w.heap.size w w':=by
 have c1:=fun W (hb:Below w.heap.size w W)=>containsI_any bA bl bc r.body 0 W (hr.body.ext hb);have c2:=fun W (hb:Below w.heap.size w W)=>containsI_any bA bl bc r.body (-9223372036854775808) W (hr.body.ext hb)
 have c3:=fun W (hb:Below w.heap.size w W)=>containsFuncI_any wA wl wc r.w 76 #[] wOut W (hr.wt.ext hb) (fun args W=>by kernel_rfl)
   (fun W' x _ _ _=>(bodyW_any x W').mono fun e w' ⟨h1,h2⟩=>⟨h1,by rw[h2];exact Below.refl _ _⟩)
 have c4:=fun W (hb:Below w.heap.size w W)=>member_any mA ml mc ms W (hm.ext hb);have l2:=Zq1 hr.body.len;have l3:=Zq1 hr.wt.len
 have hfin:bodyC r ms=(!(decide (8000<bl) || (decide ((0:Int)∈r.body) || (decide ((-9223372036854775808:Int)∈r.body) || (r.sum && decide (wl≠bl))))) && (!(r.sum && r.w.any wOut) && bodyB r ms)):=by
  unfold bodyC badB;rw[← l2.out,← l3.out]
 have hok:=fun h1 h2=>bodyC_ok (r:=r) h1 h2 hr.body.all64
 have hbd:badB r=(decide (8000<bl) || (decide ((0:Int)∈r.body) || (decide ((-9223372036854775808:Int)∈r.body) || (r.sum && decide (wl≠bl))))):=by
  unfold badB;rw[← l2.out,← l3.out]
 rw[hbd]at hok;clear hbd;generalize decide ((0:Int)∈r.body)=q1 at *;generalize decide ((-9223372036854775808:Int)∈r.body)=q2 at *;generalize r.w.any wOut=q3 at *;have hbm:=hr.body.max;have hbc:=hr.body.cap;have hwm:=hr.wt.max;have hwc:=hr.wt.cap
 obtain⟨HR,HM,HOK,C1,C2,C3,C4⟩:=Zq7 hr hm hok c1 c2 c3 c4;clear hr hm hok c1 c2 c3 c4
 by_cases h8:8000<bl
 ·have d1:decide (8000<bl)=true:=decide_eq_true h8;have d2:decide ((8000:Int)<(bl:Int))=true:=decide_eq_true (by omega);rw[d1]at hfin;have HFIN:=Zq1 hfin;clear hfin;go_enter Tryz.func33,Tryz.ntmps33;go_wp2_with fail;go_ret
  exact⟨ret_bool (by rw[HFIN.out];rfl),bel_alloc _ _⟩
 ·have d1:decide (8000<bl)=false:=decide_eq_false h8;have d2:decide ((8000:Int)<(bl:Int))=false:=decide_eq_false (by omega);rw[d1,Bool.false_or]at hfin
  cases q1 with
  |true=>
   have HFIN:=Zq1 hfin;clear hfin;go_enter Tryz.func33,Tryz.ntmps33;go_wp2_with fail;go_fit (C1.out _ (bel_alloc _ _));rintro e w' ⟨rfl,rfl⟩;go_wp2_with fail;go_ret
   exact⟨ret_bool (by rw[HFIN.out];rfl),bel_alloc _ _⟩
  |false=>
   rw[Bool.false_or]at hfin
   cases q2 with
   |true=>
    have HFIN:=Zq1 hfin;clear hfin;go_enter Tryz.func33,Tryz.ntmps33;go_wp2_with fail;go_fit (C1.out _ (bel_alloc _ _));rintro e w' ⟨rfl,rfl⟩;go_wp2_with fail;go_fit (C2.out _ (bel_alloc _ _));rintro e w' ⟨rfl,rfl⟩;go_wp2_with fail;go_ret
    exact⟨ret_bool (by rw[HFIN.out];rfl),bel_alloc _ _⟩
   |false=>
    rw[Bool.false_or]at hfin
    by_cases hs:r.sum=true
    ·rw[hs,Bool.true_and]at hfin
     by_cases hw:wl=bl
     ·have d3:decide (wl≠bl)=false:=decide_eq_false (by simpa using hw);have d4:((wl:Int) != (bl:Int))=false:=(by rw[hw];simp);rw[d3]at hfin;simp only[Bool.not_false,Bool.true_and]at hfin
      cases q3 with
      |true=>
       rw[hs]
       obtain⟨HFIN,HS,HW⟩:=Zq3 hfin hs hw;clear hfin hs hw
       go_enter Tryz.func33,Tryz.ntmps33;go_wp2_with fail;go_fit (C1.out _ (bel_alloc _ _));rintro e w' ⟨rfl,rfl⟩;go_wp2_with fail;go_fit (C2.out _ (bel_alloc _ _));rintro e w' ⟨rfl,rfl⟩;go_wp2_with fail;go_fit (C3.out _ (bel_alloc _ _));rintro e w2 ⟨rfl,hb2⟩;have HB2:=Zq1 (bel_trans (bel_alloc _ _) hb2);clear hb2;go_wp2_with fail;go_ret
       exact⟨ret_bool (by rw[HFIN.out];rfl),HB2.out⟩
      |false=>
       have ok:=HOK.out (by rw[hs,d1,d3];rfl) (by rw[hs];rfl);have c5:=fun W a (hb:Below w.heap.size w W) hmi=>body_any r hA hl hc bA bl bc wA wl wc a ms W (HR.out.ext hb) hmi ok;rw[hs];rw[hs]at c5
       obtain⟨HFIN,HS,OK,C5,HW⟩:=Zq5 hfin hs ok c5 hw;clear hfin hs ok c5 hw
       go_enter Tryz.func33,Tryz.ntmps33;go_wp2_with fail;go_fit (C1.out _ (bel_alloc _ _));rintro e w' ⟨rfl,rfl⟩;go_wp2_with fail;go_fit (C2.out _ (bel_alloc _ _));rintro e w' ⟨rfl,rfl⟩;go_wp2_with fail;go_fit (C3.out _ (bel_alloc _ _));rintro e w1 ⟨rfl,hb1⟩;have hc1:=bcell hb1;have lX:w.heap.size<w1.heap.size:=(by have:=hb1.size;simp at this;omega);have k0:w1.cell? ⟨w.heap.size,0,none⟩=some (.bool r.choice):=(by rw[hc1 _ _ (by simp)];simp[World.cell?_alloc_new]);have k1:w1.cell? ⟨w.heap.size,1,none⟩=some (.slice hA hl hc):=(by rw[hc1 _ _ (by simp)];simp[World.cell?_alloc_new]);have k2:w1.cell? ⟨w.heap.size,2,none⟩=some (.bool true):=(by rw[hc1 _ _ (by simp)];simp[World.cell?_alloc_new]);have k3:w1.cell? ⟨w.heap.size,3,none⟩=some (.int .i64 r.bound):=(by rw[hc1 _ _ (by simp)];simp[World.cell?_alloc_new]);have k4:w1.cell? ⟨w.heap.size,4,none⟩=some (.slice bA bl bc):=(by rw[hc1 _ _ (by simp)];simp[World.cell?_alloc_new]);have k5:w1.cell? ⟨w.heap.size,5,none⟩=some (.slice wA wl wc):=(by rw[hc1 _ _ (by simp)];simp[World.cell?_alloc_new]);have HX:=Zq1 (bel_trans (bel_alloc _ _) hb1);clear hc1 hb1;go_wp2_with fail
       go_region_with (first
        | (go_at_call 72;refine(C4.out _ ?_).mono ?_;exact HX.out.drew;rintro e w2 ⟨a,rfl,hmi,hb2⟩;have HB2:=Zq1 hb2;have HMI:=Zq1 hmi;have k0':=(hb2.cell (p:=⟨w.heap.size,0,none⟩) lX).trans k0;have k1':=(hb2.cell (p:=⟨w.heap.size,1,none⟩) lX).trans k1;have k2':=(hb2.cell (p:=⟨w.heap.size,2,none⟩) lX).trans k2;have k3':=(hb2.cell (p:=⟨w.heap.size,3,none⟩) lX).trans k3;have k4':=(hb2.cell (p:=⟨w.heap.size,4,none⟩) lX).trans k4;have k5':=(hb2.cell (p:=⟨w.heap.size,5,none⟩) lX).trans k5;clear hb2 hmi)
        | (go_at_call 77;refine(C5.out _ _ ?_ ?_).mono ?_;exact bel_trans HX.out.drew HB2.out;exact HMI.out;rintro e w3 ⟨rfl,hb3⟩;have HB3:=Zq1 hb3;clear hb3))
       all_goals
        go_wp2_with fail;go_ret
        exact⟨ret_bool HFIN.out.symm,bel_trans (bel_trans HX.out.drew HB2.out) HB3.out⟩
     ·have d3:decide (wl≠bl)=true:=decide_eq_true hw;have d4:((wl:Int) != (bl:Int))=true:=(by simp;omega);rw[d3]at hfin;rw[hs]
      obtain⟨HFIN,HS,HW⟩:=Zq3 hfin hs hw;clear hfin hs hw
      go_enter Tryz.func33,Tryz.ntmps33;go_wp2_with fail;go_fit (C1.out _ (bel_alloc _ _));rintro e w' ⟨rfl,rfl⟩;go_wp2_with fail;go_fit (C2.out _ (bel_alloc _ _));rintro e w' ⟨rfl,rfl⟩;go_wp2_with fail;go_ret
      exact⟨ret_bool (by rw[HFIN.out];rfl),bel_alloc _ _⟩
    ·have hsf:r.sum=false:=(by simpa using hs);clear hs;rw[hsf]at hfin;simp only[Bool.false_and,Bool.not_false,Bool.true_and]at hfin;have ok:=HOK.out (by rw[hsf,d1];rfl) (by rw[hsf];rfl);have c5:=fun W a (hb:Below w.heap.size w W) hmi=>body_any r hA hl hc bA bl bc wA wl wc a ms W (HR.out.ext hb) hmi ok;rw[hsf];rw[hsf]at c5
     obtain⟨HFIN,HSF,OK,C5⟩:=Zq4 hfin hsf ok c5;clear hfin hsf ok c5
     go_enter Tryz.func33,Tryz.ntmps33;go_wp2_with fail;go_fit (C1.out _ (bel_alloc _ _));rintro e w' ⟨rfl,rfl⟩;go_wp2_with fail;go_fit (C2.out _ (bel_alloc _ _));rintro e w' ⟨rfl,rfl⟩;go_wp2_with fail;have hX:=bel_alloc w (.cells #[.bool r.choice,.slice hA hl hc,.bool false,.int .i64 r.bound,.slice bA bl bc,.slice wA wl wc] 42);have bX:=Blk.new w 42 #[.bool r.choice,.slice hA hl hc,.bool false,.int .i64 r.bound,.slice bA bl bc,.slice wA wl wc];have k0:(w.alloc (.cells #[.bool r.choice,.slice hA hl hc,.bool false,.int .i64 r.bound,.slice bA bl bc,.slice wA wl wc] 42)).cell? ⟨w.heap.size,0,none⟩=some (.bool r.choice):=bX.cell 0;have k1:(w.alloc (.cells #[.bool r.choice,.slice hA hl hc,.bool false,.int .i64 r.bound,.slice bA bl bc,.slice wA wl wc] 42)).cell? ⟨w.heap.size,1,none⟩=some (.slice hA hl hc):=bX.cell 1;have k2:(w.alloc (.cells #[.bool r.choice,.slice hA hl hc,.bool false,.int .i64 r.bound,.slice bA bl bc,.slice wA wl wc] 42)).cell? ⟨w.heap.size,2,none⟩=some (.bool false):=bX.cell 2;have k3:(w.alloc (.cells #[.bool r.choice,.slice hA hl hc,.bool false,.int .i64 r.bound,.slice bA bl bc,.slice wA wl wc] 42)).cell? ⟨w.heap.size,3,none⟩=some (.int .i64 r.bound):=bX.cell 3;have k4:(w.alloc (.cells #[.bool r.choice,.slice hA hl hc,.bool false,.int .i64 r.bound,.slice bA bl bc,.slice wA wl wc] 42)).cell? ⟨w.heap.size,4,none⟩=some (.slice bA bl bc):=bX.cell 4;have k5:(w.alloc (.cells #[.bool r.choice,.slice hA hl hc,.bool false,.int .i64 r.bound,.slice bA bl bc,.slice wA wl wc] 42)).cell? ⟨w.heap.size,5,none⟩=some (.slice wA wl wc):=bX.cell 5;have lX:w.heap.size<(w.alloc (.cells #[.bool r.choice,.slice hA hl hc,.bool false,.int .i64 r.bound,.slice bA bl bc,.slice wA wl wc] 42)).heap.size:=(by simp);generalize w.alloc (.cells #[.bool r.choice,.slice hA hl hc,.bool false,.int .i64 r.bound,.slice bA bl bc,.slice wA wl wc] 42)=X at *
     obtain⟨HX,BX⟩:=Zq2 hX bX;clear hX bX
     go_region_with (first
      | (go_at_call 72;refine(C4.out _ ?_).mono ?_;exact HX.out.drew;rintro e w2 ⟨a,rfl,hmi,hb2⟩;have HB2:=Zq1 hb2;have HMI:=Zq1 hmi;have k0':=(hb2.cell (p:=⟨w.heap.size,0,none⟩) lX).trans k0;have k1':=(hb2.cell (p:=⟨w.heap.size,1,none⟩) lX).trans k1;have k2':=(hb2.cell (p:=⟨w.heap.size,2,none⟩) lX).trans k2;have k3':=(hb2.cell (p:=⟨w.heap.size,3,none⟩) lX).trans k3;have k4':=(hb2.cell (p:=⟨w.heap.size,4,none⟩) lX).trans k4;have k5':=(hb2.cell (p:=⟨w.heap.size,5,none⟩) lX).trans k5;clear hb2 hmi)
      | (go_at_call 77;refine(C5.out _ _ ?_ ?_).mono ?_;exact bel_trans HX.out.drew HB2.out;exact HMI.out;rintro e w3 ⟨rfl,hb3⟩;have HB3:=Zq1 hb3;clear hb3))
     all_goals
      go_wp2_with fail;go_ret
      exact⟨ret_bool HFIN.out.symm,bel_trans (bel_trans HX.out.drew HB2.out) HB3.out⟩

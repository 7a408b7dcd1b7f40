/- GH -/
import Derived.Test.YthdjkenhkedjjaaGreatG5
import Derived.Test.YthdjkenhkedjjaaGreatG6
set_option maxRecDepth 100000
set_option maxHeartbeats 1000000
namespace Go.Proofs.YthdjkenhkedjjaaGreat
open Go.RowKit
theorem sEqual_any (aA:OA)(al ac:Nat)(bA:OA)(bl bc:Nat)(xs ys:LI)(w:World)(ha:SlIs intR w aA al ac xs)(hb:SlIs intR w bA bl bc ys):
  Calls Tryz.prog 55 #[.slice aA al ac,.slice bA bl bc] w fun e w'=>e=.returned (.bool (decide (xs=ys)))∧Below w.heap.size w w':=by
 have hl:=ha.cap;have hm:=ha.max;have hl2:=hb.cap;have hm2:=hb.max;have la:=Zq1 ha.len;have lb:=Zq1 hb.len
 obtain⟨HA,HB⟩:=Zq2 ha hb;clear ha hb
 by_cases hne:al=bl
 ·subst hne;go_enter Tryz.func55,Tryz.ntmps55;go_wp2;go_loopw [13] (fun i wr=>∃k:Nat,k≤al∧i=.int .i64 k∧Below w.heap.size w wr∧decide (xs=ys)=decide (xs.drop k=ys.drop k)) (fun i _=>al-(intOf i).toNat)
  case atStart=>exact⟨0,Nat.zero_le _,rfl,Below.refl _ _,rfl⟩
  case round=>
   obtain⟨k,hk,rfl,hbw,hs⟩:=hrel
   have H1:=Zq1 (HA.out.ext hbw);have H2:=Zq1 (HB.out.ext hbw);have HBW:=Zq1 hbw;clear hbw;have HS:=Zq1 hs;clear hs
   by_cases hlt:k<al
   ·obtain⟨x,hx,hd⟩:=HA.out.drop hlt
    obtain⟨y,hy,hd2⟩:=HB.out.drop hlt
    obtain⟨b,off,rfl,_,hcell,_⟩:=H1.out.int hx
    obtain⟨b2,off2,rfl,_,hcell2,_⟩:=H2.out.int hy
    obtain⟨HX,HD,HY,HD2⟩:=Zq4 hx hd hy hd2;clear hx hd hy hd2
    have i0:(0:Int)≤(k:Int):=(by omega);have i1:(k:Int)<(al:Int):=(by omega)
    by_cases he:x=y
    ·have HE:=Zq1 he;have e1:(x != y)=false:=(by simpa using he);clear he;go_wp2_with fail;refine wp_region_later [(⟨b,off+k,none⟩,.int .i64 x),(⟨b2,off2+k,none⟩,.int .i64 y)] (by kernel_rfl) (by kernel_rfl) (by simp[go_sem, *]) ?_;intro hk;simp only[List.forall_mem_cons]at hk;obtain⟨k1_0,k1_1,kz⟩:=hk;clear kz
     repeat go_big_quiet_step (fail)
     refine wpQuiet_nil ?_;rintro w2 ⟨u1,rfl⟩;have HU1:=Zq1 u1.h;clear k1_0 k1_1;go_wp2_with fail;go_roundw;exact⟨k+1,by omega,by go_num,bel_trans HBW.out HU1.out,by rw[HS.out,HD.out,HD2.out,eq_cons,decide_eq_true HE.out,Bool.true_and]⟩;simp[intOf];omega
    ·have HE:=Zq1 he;have e1:(x != y)=true:=(by simpa using he);clear he;go_wp2_with fail;refine wp_region_later [(⟨b,off+k,none⟩,.int .i64 x),(⟨b2,off2+k,none⟩,.int .i64 y)] (by kernel_rfl) (by kernel_rfl) (by simp[go_sem, *]) ?_;intro hk;simp only[List.forall_mem_cons]at hk;obtain⟨k1_0,k1_1,kz⟩:=hk;clear kz
     repeat go_big_quiet_step (fail)
     refine wpQuiet_nil ?_;rintro w2 ⟨u1,rfl⟩;have HU1:=Zq1 u1.h;clear k1_0 k1_1;go_wp2_with fail;go_ret
     exact⟨ret_bool (by rw[HS.out,HD.out,HD2.out,eq_cons,decide_eq_false HE.out,Bool.false_and]),bel_trans HBW.out HU1.out⟩
   ·go_wp2;go_ret
    exact⟨ret_bool (by rw[HS.out,HA.out.stop (by omega),HB.out.stop (by omega)];rfl),HBW.out⟩
 ·have hn2:((al:Int) != (bl:Int))=true:=by simp;omega
  have HNE:=Zq1 hne;clear hne;go_enter Tryz.func55,Tryz.ntmps55;go_wp2;go_ret
  exact⟨ret_bool (eq_len (by rw[← la.out,← lb.out];exact HNE.out)).symm,Below.refl _ _⟩
theorem cmpL_cons (x y:Int)(r t:LI):cmpL (x::r) (y::t)=if cmpI x y≠0 then cmpI x y else cmpL r t:=by
 rw[show cmpL (x::r) (y::t)=if x=y then cmpL r t else if x<y then -1 else 1 from rfl];unfold cmpI
 by_cases h1:x=y
 ·subst h1;simp
 ·rw[if_neg h1]
  by_cases h2:x<y
  ·simp[h2]
  ·have h3:y<x:=(by omega);simp[h2,h3]
theorem compareL_any (aA:OA)(al ac:Nat)(bA:OA)(bl bc:Nat)(xs ys:LI)(w:World)(ha:SlIs intR w aA al ac xs)(hb:SlIs intR w bA bl bc ys):
  Calls Tryz.prog 82 #[.slice aA al ac,.slice bA bl bc] w fun e w'=>e=.returned (.int .i64 (cmpL xs ys))∧w=w':=by
 have hl:=ha.cap;have hm:=ha.max;have hl2:=hb.cap;have hm2:=hb.max
 obtain⟨HA,HB⟩:=Zq2 ha hb;clear ha hb
 go_enter Tryz.func82,Tryz.ntmps82;go_wp2;go_loop [11] (fun i=>∃k:Nat,k≤al∧i=.int .i64 (k:Int)∧cmpL xs ys=cmpL (xs.drop k) (ys.drop k)) (fun i=>al-(intOf i).toNat)
 case atStart=>exact⟨0,Nat.zero_le _,rfl,rfl⟩
 case round=>
  obtain⟨k,hk,rfl,hs⟩:=hrel
  by_cases hlt:k<al
  ·obtain⟨x,hx,hd⟩:=HA.out.drop hlt
   obtain⟨b1,o1,rfl,_,cx,_⟩:=HA.out.int hx
   have k0:(0:Int)≤(k:Int):=(by omega);have k1:(k:Int)<(al:Int):=(by omega);rw[hd]at hs
   by_cases hge:bl≤k
   ·have e1:decide ((bl:Int)≤(k:Int))=true:=decide_eq_true (by omega);have e2:(bl:Int)≤(k:Int):=(by omega);rw[HB.out.stop hge]at hs
    obtain⟨HX,HD,HS⟩:=Zq3 hx hd hs;clear hx hd hs
    go_wp2;go_ret
    exact⟨ret_int (by rw[HS.out];rfl),rfl⟩
   ·have hlb:k<bl:=(by omega)
    obtain⟨y,hy,hdy⟩:=HB.out.drop hlb
    obtain⟨b2,o2,rfl,_,cy,_⟩:=HB.out.int hy
    have k2:(k:Int)<(bl:Int):=(by omega);have e2:¬(bl:Int)≤(k:Int):=(by omega);have cC:=compare_any x y w;rw[hdy,cmpL_cons]at hs;generalize cmpI x y=c at *
    by_cases hc:c=0
    ·subst hc;rw[if_neg (by simp)]at hs
     obtain⟨HX,HD,HS,HY,HDY,CC⟩:=Zq6 hx hd hs hy hdy cC;clear hx hd hs hy hdy cC
     go_wp2_with fail;go_fit CC.out;rintro e w' ⟨rfl,rfl⟩;go_wp2_with fail;go_round
     case rel=>exact⟨k+1,by omega,by go_num,HS.out⟩
     case measure=>simp[intOf];omega
    ·rw[if_pos hc]at hs;have hc1:(c != 0)=true:=(by simpa using hc)
     obtain⟨HX,HD,HS,HY,HDY,CC,HC⟩:=Zq7 hx hd hs hy hdy cC hc;clear hx hd hs hy hdy cC hc
     go_wp2_with fail;go_fit CC.out;rintro e w' ⟨rfl,rfl⟩;go_wp2_with fail;go_ret
     exact⟨ret_int (by rw[HS.out]),rfl⟩
  ·rw[HA.out.stop (show al≤k by omega)]at hs;have hkl:k=al:=(by omega);subst hkl
   by_cases hlb:k<bl
   ·obtain⟨y,hy,hdy⟩:=HB.out.drop hlb
    have e1:(k:Int)<(bl:Int):=(by omega);rw[hdy]at hs
    obtain⟨HS,HY,HDY⟩:=Zq3 hs hy hdy;clear hs hy hdy
    go_wp2_with fail;go_ret
    exact⟨ret_int (by rw[HS.out];rfl),rfl⟩
   ·have e1:¬(k:Int)<(bl:Int):=(by omega);rw[HB.out.stop (by omega)]at hs;have HS:=Zq1 hs;clear hs;go_wp2_with fail;go_ret
    exact⟨ret_int (by rw[HS.out];rfl),rfl⟩
open Go.RowKit

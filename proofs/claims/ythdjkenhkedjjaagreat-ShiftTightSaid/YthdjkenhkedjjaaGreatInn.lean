/- The contract of ostlerlaw19.In. -/
import Derived.Test.YthdjkenhkedjjaaGreatG5
set_option maxRecDepth 100000
set_option maxHeartbeats 1000000
namespace Go.Proofs.YthdjkenhkedjjaaGreat
open Go.RowKit
theorem inB_cons (x : Int) (r b : List Int) : inB (x :: r) b = (decide (x ∈ b) && inB r b) := by simp [inB]
theorem in_any (aA : Option Addr) (al ac : Nat) (bA : Option Addr) (bl bc : Nat) (xs ys : List Int) (w : World) (ha : SlIs intR w aA al ac xs) (hb : SlIs intR w bA bl bc ys) :
  Calls Tryz.prog 25 #[.slice aA al ac,.slice bA bl bc] w fun e w' => e = .returned (.bool (inB xs ys)) ∧ w = w' := by
 have ha1 := ha.cap
 have ha2 := ha.max
 have hb1 := hb.cap
 have hb2 := hb.max
 obtain ⟨HA,HB⟩ := hd2 ha hb; clear ha hb
 go_enter Tryz.func25,Tryz.ntmps25
 go_wp2
 go_loop [12] (fun i => ∃ k : Nat,k ≤ al ∧ i = .int .i64 (k : Int) ∧ inB xs ys = inB (xs.drop k) ys) (fun i => al - (intOf i).toNat)
 case atStart => exact ⟨0,Nat.zero_le _,rfl,rfl⟩
 case round =>
  obtain ⟨k,hk,rfl,hs⟩ := hrel
  have HS := Lib.hid hs; clear hs
  by_cases hlt : k < al
  ·obtain ⟨x,hx,hd⟩ := HA.out.drop hlt
   obtain ⟨b1,o1,rfl,_,cx,_⟩ := HA.out.int hx
   have k0 : (0 : Int) ≤ (k : Int) := by omega
   have k1 : (k : Int) < (al : Int) := by omega
   obtain ⟨HX,HD⟩ := hd2 hx hd; clear hx hd
   go_wp2
   go_loop [7,18] (fun f i => ∃ (q : Nat) (z : Bool),q ≤ bl ∧ f = .bool z ∧ i = .int .i64 (q : Int) ∧ decide (x ∈ ys) = (z || decide (x ∈ ys.drop q))) (fun _ i => bl - (intOf i).toNat)
   case atStart => exact ⟨0,false,Nat.zero_le _,rfl,rfl,by simp⟩
   case round =>
    obtain ⟨q,z,hq,rfl,rfl,hs2⟩ := hrel
    have HS2 := Lib.hid hs2; clear hs2
    by_cases hlq : q < bl
    ·obtain ⟨y,hy,hdy⟩ := HB.out.drop hlq
     obtain ⟨b2,o2,rfl,_,cy,_⟩ := HB.out.int hy
     have q0 : (0 : Int) ≤ (q : Int) := by omega
     have q1 : (q : Int) < (bl : Int) := by omega
     obtain ⟨HY,HDY⟩ := hd2 hy hdy; clear hy hdy
     cases z with
     | true =>
      go_wp2
      go_round
      case rel => exact ⟨q + 1,true,by omega,rfl,by go_num,by rw [HS2.out]; simp⟩
      case measure => simp [intOf]; omega
     | false =>
      go_wp2
      go_round
      case rel => exact ⟨q + 1,x == y,by omega,rfl,by go_num,by rw [HS2.out,HDY.out,Bool.false_or,Bool.eq_iff_iff]; simp⟩
      case measure => simp [intOf]; omega
    ·have hz : decide (x ∈ ys) = z := by rw [HS2.out,HB.out.stop (by omega)]; simp
     have hin : inB xs ys = (z && inB (xs.drop (k + 1)) ys) := by rw [HS.out,HD.out,inB_cons,hz]
     cases z with
     | true =>
      obtain ⟨HZ,HIN⟩ := hd2 hz hin; clear hz hin
      go_wp2
      go_round
      case rel => exact ⟨k + 1,by omega,by go_num,by rw [HIN.out,Bool.true_and]⟩
      case measure => simp [intOf]; omega
     | false =>
      obtain ⟨HZ,HIN⟩ := hd2 hz hin; clear hz hin
      go_wp2
      go_ret
      exact ⟨ret_bool (by rw [HIN.out,Bool.false_and]),rfl⟩
  ·go_wp2
   go_ret
   exact ⟨ret_bool (by rw [HS.out,HA.out.stop (by omega)]; rfl),rfl⟩
end Go.Proofs.YthdjkenhkedjjaaGreat

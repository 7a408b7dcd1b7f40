/- Contract: gprog.Same, of two programs that read the same. -/
import Derived.Test.YthdjkenhkedjjaaGreatGL
import Derived.Test.YthdjkenhkedjjaaGreatGS
import Derived.Deep.QuietTactic
import Derived.BigQuiet
set_option maxRecDepth 100000
set_option maxHeartbeats 4000000
namespace Go.Proofs.YthdjkenhkedjjaaGreat
open Go.RowKit Go.Shelf
theorem equalI_true (aA : Option Addr) (al ac : Nat) (bA : Option Addr) (bl bc : Nat) (xs : List Int) (w : World) (ha : SlIs intR w aA al ac xs) (hb : SlIs intR w bA bl bc xs) :
  Calls Tryz.prog 55 #[.slice aA al ac,.slice bA bl bc] w fun e w' => e = .returned (.bool true) ∧ Below w.heap.size w w' := by
 have l1 : bl = al := by rw [ha.len,hb.len]
 subst l1
 have k1 := ha.cap
 have k2 := ha.max
 have k3 := hb.cap
 have k4 := hb.max
 obtain ⟨HA,HB⟩ := hd2 ha hb; clear ha hb
 go_enter Tryz.func55,Tryz.ntmps55
 go_wp2_with fail
 go_loopw [13] (fun t wr => ∃ i : Nat,i ≤ bl ∧ t = .int .i64 (i : Int) ∧ Below w.heap.size w wr) (fun t _ => bl - (intOf t).toNat)
 case atStart => exact ⟨0,Nat.zero_le _,rfl,Below.refl _ _⟩
 case round =>
  obtain ⟨i,hi,rfl,hw⟩ := hrel
  by_cases hlt : i < bl
  ·obtain ⟨x,hx,-⟩ := HA.out.drop hlt
   obtain ⟨b1,o1,rfl,_,x1,-⟩ := (HA.out.ext hw).int hx
   obtain ⟨b2,o2,rfl,_,x2,-⟩ := (HB.out.ext hw).int hx
   have i0 : (0 : Int) ≤ (i : Int) := by omega
   have i1 : (i : Int) < (bl : Int) := by omega
   obtain ⟨HW,HX⟩ := hd2 hw hx; clear hw hx
   go_wp2_with fail
   go_quiet (fail)
   go_wp2_with fail
   go_roundw
   case rel => exact ⟨i + 1,by omega,by go_num,below_drewN HW.out _⟩
   case measure => simp [intOf]; omega
  ·have hil : i = bl := by omega
   obtain ⟨HW,HIL⟩ := hd2 hw hil; clear hw hil
   go_wp2_with fail
   go_ret
   exact ⟨rfl,HW.out⟩
theorem equalS_true (aA : Option Addr) (al ac : Nat) (bA : Option Addr) (bl bc : Nat) (xs : List ByteArray) (w : World) (ha : SlIs strR w aA al ac xs) (hb : SlIs strR w bA bl bc xs) :
  Calls Tryz.prog 54 #[.slice aA al ac,.slice bA bl bc] w fun e w' => e = .returned (.bool true) ∧ Below w.heap.size w w' := by
 have l1 : bl = al := by rw [ha.len,hb.len]
 subst l1
 have k1 := ha.cap
 have k2 := ha.max
 have k3 := hb.cap
 have k4 := hb.max
 obtain ⟨HA,HB⟩ := hd2 ha hb; clear ha hb
 go_enter Tryz.func54,Tryz.ntmps54
 go_wp2_with fail
 go_loopw [13] (fun t wr => ∃ i : Nat,i ≤ bl ∧ t = .int .i64 (i : Int) ∧ Below w.heap.size w wr) (fun t _ => bl - (intOf t).toNat)
 case atStart => exact ⟨0,Nat.zero_le _,rfl,Below.refl _ _⟩
 case round =>
  obtain ⟨i,hi,rfl,hw⟩ := hrel
  by_cases hlt : i < bl
  ·obtain ⟨x,hx,-⟩ := HA.out.drop hlt
   obtain ⟨b1,o1,rfl,_,x1,-⟩ := (HA.out.ext hw).str hx
   obtain ⟨b2,o2,rfl,_,x2,-⟩ := (HB.out.ext hw).str hx
   have i0 : (0 : Int) ≤ (i : Int) := by omega
   have i1 : (i : Int) < (bl : Int) := by omega
   obtain ⟨HW,HX⟩ := hd2 hw hx; clear hw hx
   go_wp2_with fail
   go_quiet (fail)
   go_wp2_with fail
   go_roundw
   case rel => exact ⟨i + 1,by omega,by go_num,below_drewN HW.out _⟩
   case measure => simp [intOf]; omega
  ·have hil : i = bl := by omega
   obtain ⟨HW,HIL⟩ := hd2 hw hil; clear hw hil
   go_wp2_with fail
   go_ret
   exact ⟨rfl,HW.out⟩
theorem gsameRule_true (r : GRule) (hA : Option Addr) (hl hc : Nat) (bA : Option Addr) (bl bc : Nat) (wA : Option Addr) (wl wc : Nat) (iA : Option Addr) (il ic : Nat) (cA : Option Addr) (cl cc : Nat) (xA : Option Addr) (xl xc : Nat) (w : World) (hr : RuleIn w r hA hl hc bA bl bc wA wl wc) (hs : RuleIn w r iA il ic cA cl cc xA xl xc) :
  Calls Tryz.prog 57 #[.agg #[.bool r.choice,.slice hA hl hc,.bool r.sum,.int .i64 r.bound,.slice bA bl bc,.slice wA wl wc],.agg #[.bool r.choice,.slice iA il ic,.bool r.sum,.int .i64 r.bound,.slice cA cl cc,.slice xA xl xc]] w fun e w' => e = .returned (.bool true) ∧ Below w.heap.size w w' := by
 have b1 : Blk ((w.alloc (.cells #[.bool r.choice,.slice hA hl hc,.bool r.sum,.int .i64 r.bound,.slice bA bl bc,.slice wA wl wc] 42)).alloc (.cells #[.bool r.choice,.slice iA il ic,.bool r.sum,.int .i64 r.bound,.slice cA cl cc,.slice xA xl xc] 42)) w.heap.size 42 #[.bool r.choice,.slice hA hl hc,.bool r.sum,.int .i64 r.bound,.slice bA bl bc,.slice wA wl wc] := (blk_new rfl _ _).alloc _
 have b2 : Blk ((w.alloc (.cells #[.bool r.choice,.slice hA hl hc,.bool r.sum,.int .i64 r.bound,.slice bA bl bc,.slice wA wl wc] 42)).alloc (.cells #[.bool r.choice,.slice iA il ic,.bool r.sum,.int .i64 r.bound,.slice cA cl cc,.slice xA xl xc] 42)) (w.heap.size + 1) 42 #[.bool r.choice,.slice iA il ic,.bool r.sum,.int .i64 r.bound,.slice cA cl cc,.slice xA xl xc] := blk_new (by simp) _ _
 have bW : Below w.heap.size w ((w.alloc (.cells #[.bool r.choice,.slice hA hl hc,.bool r.sum,.int .i64 r.bound,.slice bA bl bc,.slice wA wl wc] 42)).alloc (.cells #[.bool r.choice,.slice iA il ic,.bool r.sum,.int .i64 r.bound,.slice cA cl cc,.slice xA xl xc] 42)) := bel_trans (bel_alloc _ _) (bel_alloc _ _)
 have c1 := fun W (hb : Below w.heap.size w W) => equalI_true hA hl hc iA il ic r.head W (hr.head.ext hb) (hs.head.ext hb)
 have c2 := fun W (hb : Below w.heap.size w W) => equalI_true bA bl bc cA cl cc r.body W (hr.body.ext hb) (hs.body.ext hb)
 have c3 := fun W (hb : Below w.heap.size w W) => equalI_true wA wl wc xA xl xc r.w W (hr.wt.ext hb) (hs.wt.ext hb)
 obtain ⟨B1,B2,BW,C1,C2,C3,HR,HS⟩ := hd8 b1 b2 bW c1 c2 c3 hr hs; clear b1 b2 bW c1 c2 c3 hr hs
 go_enter Tryz.func57,Tryz.ntmps57
 go_wp2_with fail
 go_fit (C1.out _ BW.out); rintro e w1 ⟨rfl,hb⟩
 have d1 := B1.out.bel hb
 have d2 := B2.out.bel hb
 have hbw := bel_trans BW.out hb
 have p4 : w1.cell? ⟨w.heap.size,4,none⟩ = some (.slice bA bl bc) := d1.cell 4
 have q4 : w1.cell? ⟨w.heap.size + 1,4,none⟩ = some (.slice cA cl cc) := d2.cell 4
 clear hb
 obtain ⟨D1,D2,HBW⟩ := hd3 d1 d2 hbw; clear d1 d2 hbw
 go_wp2_with fail
 go_fit (C2.out _ HBW.out); rintro e w2 ⟨rfl,hb⟩
 have d3 := D1.out.bel hb
 have d4 := D2.out.bel hb
 have hbv := bel_trans HBW.out hb
 have p5 : w2.cell? ⟨w.heap.size,5,none⟩ = some (.slice wA wl wc) := d3.cell 5
 have q5 : w2.cell? ⟨w.heap.size + 1,5,none⟩ = some (.slice xA xl xc) := d4.cell 5
 clear hb
 obtain ⟨D3,D4,HBV⟩ := hd3 d3 d4 hbv; clear d3 d4 hbv
 go_wp2_with fail
 go_fit (C3.out _ HBV.out); rintro e w3 ⟨rfl,hb⟩
 have HBX := Lib.hid (bel_trans HBV.out hb)
 clear hb
 go_wp2_with fail
 go_ret
 exact ⟨rfl,HBX.out⟩
theorem equalR_true (aA : Option Addr) (al ac : Nat) (bA : Option Addr) (bl bc : Nat) (xs : List GRule) (w : World) (ha : SlIs ruleR w aA al ac xs) (hb : SlIs ruleR w bA bl bc xs) :
  Calls Tryz.prog 56 #[.slice aA al ac,.slice bA bl bc,.func (.func 57) #[] #[]] w fun e w' => e = .returned (.bool true) ∧ Below w.heap.size w w' := by
 have l1 : bl = al := by rw [ha.len,hb.len]
 subst l1
 have k1 := ha.cap
 have k2 := ha.max
 have k3 := hb.cap
 have k4 := hb.max
 obtain ⟨HA,HB⟩ := hd2 ha hb; clear ha hb
 go_enter Tryz.func56,Tryz.ntmps56
 go_wp2_with fail
 go_loopw [17] (fun t wr => ∃ i : Nat,i ≤ bl ∧ t = .int .i64 (i : Int) ∧ Below w.heap.size w wr) (fun t _ => bl - (intOf t).toNat)
 case atStart => exact ⟨0,Nat.zero_le _,rfl,Below.refl _ _⟩
 case round =>
  obtain ⟨i,hi,rfl,hw⟩ := hrel
  obtain ⟨wo,rfl⟩ : ∃ wo : World,wo = wr := ⟨_,rfl⟩
  by_cases hlt : i < bl
  ·obtain ⟨r,hr,-⟩ := HA.out.drop hlt
   obtain ⟨b1,o1,hA,hl,hc,cA,cl,cc,wA,wl,wc,rfl,q1,x0,x1,x2,x3,x4,x5,g1,g2,g3,g4⟩ := (HA.out.ext hw).rule hr
   obtain ⟨b2,o2,iA,il,ic,dA,dl,dc,yA,yl,yc,rfl,q2,y0,y1,y2,y3,y4,y5,h1,h2,h3,h4⟩ := (HB.out.ext hw).rule hr
   have i0 : (0 : Int) ≤ (i : Int) := by omega
   have i1 : (i : Int) < (bl : Int) := by omega
   have z0 := (bel_alloc wo (.cells #[.bool r.choice,.slice hA hl hc,.bool r.sum,.int .i64 r.bound,.slice cA cl cc,.slice wA wl wc] 42)).cell (World.block_lt_of_cell? _ _ y0) |>.trans y0
   have z1 := (bel_alloc wo (.cells #[.bool r.choice,.slice hA hl hc,.bool r.sum,.int .i64 r.bound,.slice cA cl cc,.slice wA wl wc] 42)).cell (World.block_lt_of_cell? _ _ y1) |>.trans y1
   have z2 := (bel_alloc wo (.cells #[.bool r.choice,.slice hA hl hc,.bool r.sum,.int .i64 r.bound,.slice cA cl cc,.slice wA wl wc] 42)).cell (World.block_lt_of_cell? _ _ y2) |>.trans y2
   have z3 := (bel_alloc wo (.cells #[.bool r.choice,.slice hA hl hc,.bool r.sum,.int .i64 r.bound,.slice cA cl cc,.slice wA wl wc] 42)).cell (World.block_lt_of_cell? _ _ y3) |>.trans y3
   have z4 := (bel_alloc wo (.cells #[.bool r.choice,.slice hA hl hc,.bool r.sum,.int .i64 r.bound,.slice cA cl cc,.slice wA wl wc] 42)).cell (World.block_lt_of_cell? _ _ y4) |>.trans y4
   have z5 := (bel_alloc wo (.cells #[.bool r.choice,.slice hA hl hc,.bool r.sum,.int .i64 r.bound,.slice cA cl cc,.slice wA wl wc] 42)).cell (World.block_lt_of_cell? _ _ y5) |>.trans y5
   have b1_ : Blk ((wo.alloc (.cells #[.bool r.choice,.slice hA hl hc,.bool r.sum,.int .i64 r.bound,.slice cA cl cc,.slice wA wl wc] 42)).alloc (.cells #[.bool r.choice,.slice iA il ic,.bool r.sum,.int .i64 r.bound,.slice dA dl dc,.slice yA yl yc] 42)) wo.heap.size 42 #[.bool r.choice,.slice hA hl hc,.bool r.sum,.int .i64 r.bound,.slice cA cl cc,.slice wA wl wc] := (blk_new rfl _ _).alloc _
   have b2_ : Blk ((wo.alloc (.cells #[.bool r.choice,.slice hA hl hc,.bool r.sum,.int .i64 r.bound,.slice cA cl cc,.slice wA wl wc] 42)).alloc (.cells #[.bool r.choice,.slice iA il ic,.bool r.sum,.int .i64 r.bound,.slice dA dl dc,.slice yA yl yc] 42)) (wo.heap.size + 1) 42 #[.bool r.choice,.slice iA il ic,.bool r.sum,.int .i64 r.bound,.slice dA dl dc,.slice yA yl yc] := blk_new (by simp) _ _
   have m0 : ((wo.alloc (.cells #[.bool r.choice,.slice hA hl hc,.bool r.sum,.int .i64 r.bound,.slice cA cl cc,.slice wA wl wc] 42)).alloc (.cells #[.bool r.choice,.slice iA il ic,.bool r.sum,.int .i64 r.bound,.slice dA dl dc,.slice yA yl yc] 42)).cell? ⟨wo.heap.size,0,none⟩ = some (.bool r.choice) := b1_.cell 0
   have m1 : ((wo.alloc (.cells #[.bool r.choice,.slice hA hl hc,.bool r.sum,.int .i64 r.bound,.slice cA cl cc,.slice wA wl wc] 42)).alloc (.cells #[.bool r.choice,.slice iA il ic,.bool r.sum,.int .i64 r.bound,.slice dA dl dc,.slice yA yl yc] 42)).cell? ⟨wo.heap.size,1,none⟩ = some (.slice hA hl hc) := b1_.cell 1
   have m2 : ((wo.alloc (.cells #[.bool r.choice,.slice hA hl hc,.bool r.sum,.int .i64 r.bound,.slice cA cl cc,.slice wA wl wc] 42)).alloc (.cells #[.bool r.choice,.slice iA il ic,.bool r.sum,.int .i64 r.bound,.slice dA dl dc,.slice yA yl yc] 42)).cell? ⟨wo.heap.size,2,none⟩ = some (.bool r.sum) := b1_.cell 2
   have m3 : ((wo.alloc (.cells #[.bool r.choice,.slice hA hl hc,.bool r.sum,.int .i64 r.bound,.slice cA cl cc,.slice wA wl wc] 42)).alloc (.cells #[.bool r.choice,.slice iA il ic,.bool r.sum,.int .i64 r.bound,.slice dA dl dc,.slice yA yl yc] 42)).cell? ⟨wo.heap.size,3,none⟩ = some (.int .i64 r.bound) := b1_.cell 3
   have m4 : ((wo.alloc (.cells #[.bool r.choice,.slice hA hl hc,.bool r.sum,.int .i64 r.bound,.slice cA cl cc,.slice wA wl wc] 42)).alloc (.cells #[.bool r.choice,.slice iA il ic,.bool r.sum,.int .i64 r.bound,.slice dA dl dc,.slice yA yl yc] 42)).cell? ⟨wo.heap.size,4,none⟩ = some (.slice cA cl cc) := b1_.cell 4
   have m5 : ((wo.alloc (.cells #[.bool r.choice,.slice hA hl hc,.bool r.sum,.int .i64 r.bound,.slice cA cl cc,.slice wA wl wc] 42)).alloc (.cells #[.bool r.choice,.slice iA il ic,.bool r.sum,.int .i64 r.bound,.slice dA dl dc,.slice yA yl yc] 42)).cell? ⟨wo.heap.size,5,none⟩ = some (.slice wA wl wc) := b1_.cell 5
   have n0 : ((wo.alloc (.cells #[.bool r.choice,.slice hA hl hc,.bool r.sum,.int .i64 r.bound,.slice cA cl cc,.slice wA wl wc] 42)).alloc (.cells #[.bool r.choice,.slice iA il ic,.bool r.sum,.int .i64 r.bound,.slice dA dl dc,.slice yA yl yc] 42)).cell? ⟨wo.heap.size + 1,0,none⟩ = some (.bool r.choice) := b2_.cell 0
   have n1 : ((wo.alloc (.cells #[.bool r.choice,.slice hA hl hc,.bool r.sum,.int .i64 r.bound,.slice cA cl cc,.slice wA wl wc] 42)).alloc (.cells #[.bool r.choice,.slice iA il ic,.bool r.sum,.int .i64 r.bound,.slice dA dl dc,.slice yA yl yc] 42)).cell? ⟨wo.heap.size + 1,1,none⟩ = some (.slice iA il ic) := b2_.cell 1
   have n2 : ((wo.alloc (.cells #[.bool r.choice,.slice hA hl hc,.bool r.sum,.int .i64 r.bound,.slice cA cl cc,.slice wA wl wc] 42)).alloc (.cells #[.bool r.choice,.slice iA il ic,.bool r.sum,.int .i64 r.bound,.slice dA dl dc,.slice yA yl yc] 42)).cell? ⟨wo.heap.size + 1,2,none⟩ = some (.bool r.sum) := b2_.cell 2
   have n3 : ((wo.alloc (.cells #[.bool r.choice,.slice hA hl hc,.bool r.sum,.int .i64 r.bound,.slice cA cl cc,.slice wA wl wc] 42)).alloc (.cells #[.bool r.choice,.slice iA il ic,.bool r.sum,.int .i64 r.bound,.slice dA dl dc,.slice yA yl yc] 42)).cell? ⟨wo.heap.size + 1,3,none⟩ = some (.int .i64 r.bound) := b2_.cell 3
   have n4 : ((wo.alloc (.cells #[.bool r.choice,.slice hA hl hc,.bool r.sum,.int .i64 r.bound,.slice cA cl cc,.slice wA wl wc] 42)).alloc (.cells #[.bool r.choice,.slice iA il ic,.bool r.sum,.int .i64 r.bound,.slice dA dl dc,.slice yA yl yc] 42)).cell? ⟨wo.heap.size + 1,4,none⟩ = some (.slice dA dl dc) := b2_.cell 4
   have n5 : ((wo.alloc (.cells #[.bool r.choice,.slice hA hl hc,.bool r.sum,.int .i64 r.bound,.slice cA cl cc,.slice wA wl wc] 42)).alloc (.cells #[.bool r.choice,.slice iA il ic,.bool r.sum,.int .i64 r.bound,.slice dA dl dc,.slice yA yl yc] 42)).cell? ⟨wo.heap.size + 1,5,none⟩ = some (.slice yA yl yc) := b2_.cell 5
   have hb2 : Below wo.heap.size wo ((wo.alloc (.cells #[.bool r.choice,.slice hA hl hc,.bool r.sum,.int .i64 r.bound,.slice cA cl cc,.slice wA wl wc] 42)).alloc (.cells #[.bool r.choice,.slice iA il ic,.bool r.sum,.int .i64 r.bound,.slice dA dl dc,.slice yA yl yc] 42)) := bel_trans (bel_alloc _ _) (bel_alloc _ _)
   have cS := gsameRule_true r hA hl hc cA cl cc wA wl wc iA il ic dA dl dc yA yl yc ((wo.alloc (.cells #[.bool r.choice,.slice hA hl hc,.bool r.sum,.int .i64 r.bound,.slice cA cl cc,.slice wA wl wc] 42)).alloc (.cells #[.bool r.choice,.slice iA il ic,.bool r.sum,.int .i64 r.bound,.slice dA dl dc,.slice yA yl yc] 42)) (RuleIn.ext ⟨g1,g2,g3,g4⟩ hb2) (RuleIn.ext ⟨h1,h2,h3,h4⟩ hb2)
   have hw2 := bel_trans hw hb2
   obtain ⟨HW,HR,CS,G1,G2,G3,G4,H1,H2,H3,H4,B1_⟩ := hd12 hw hr cS g1 g2 g3 g4 h1 h2 h3 h4 b1_; clear hw hr cS g1 g2 g3 g4 h1 h2 h3 h4 b1_
   obtain ⟨B2_,HB2,HW2⟩ := hd3 b2_ hb2 hw2; clear b2_ hb2 hw2
   go_wp2_with fail
   go_fit CS.out; rintro e w5 ⟨rfl,hb5⟩
   have HW5 := Lib.hid (bel_trans HW2.out hb5)
   clear hb5
   go_wp2_with fail
   go_roundw
   case rel => exact ⟨i + 1,by omega,by go_num,HW5.out⟩
   case measure => simp [intOf]; omega
  ·have hil : i = bl := by omega
   obtain ⟨HW,HIL⟩ := hd2 hw hil; clear hw hil
   go_wp2_with fail
   go_ret
   exact ⟨rfl,HW.out⟩
theorem gsameMin_true (r : GMin) (hA : Option Addr) (hl hc : Nat) (bA : Option Addr) (bl bc : Nat) (iA : Option Addr) (il ic : Nat) (cA : Option Addr) (cl cc : Nat) (w : World)
  (h1 : SlIs intR w hA hl hc r.lits) (h2 : SlIs intR w bA bl bc r.w) (h3 : SlIs intR w iA il ic r.lits) (h4 : SlIs intR w cA cl cc r.w) :
  Calls Tryz.prog 59 #[.agg #[.int .i64 r.level,.slice hA hl hc,.slice bA bl bc],.agg #[.int .i64 r.level,.slice iA il ic,.slice cA cl cc]] w fun e w' => e = .returned (.bool true) ∧ Below w.heap.size w w' := by
 have b1 : Blk ((w.alloc (.cells #[.int .i64 r.level,.slice hA hl hc,.slice bA bl bc] 67)).alloc (.cells #[.int .i64 r.level,.slice iA il ic,.slice cA cl cc] 67)) w.heap.size 67 #[.int .i64 r.level,.slice hA hl hc,.slice bA bl bc] := (blk_new rfl _ _).alloc _
 have b2 : Blk ((w.alloc (.cells #[.int .i64 r.level,.slice hA hl hc,.slice bA bl bc] 67)).alloc (.cells #[.int .i64 r.level,.slice iA il ic,.slice cA cl cc] 67)) (w.heap.size + 1) 67 #[.int .i64 r.level,.slice iA il ic,.slice cA cl cc] := blk_new (by simp) _ _
 have bW : Below w.heap.size w ((w.alloc (.cells #[.int .i64 r.level,.slice hA hl hc,.slice bA bl bc] 67)).alloc (.cells #[.int .i64 r.level,.slice iA il ic,.slice cA cl cc] 67)) := bel_trans (bel_alloc _ _) (bel_alloc _ _)
 have c1 := fun W (hb : Below w.heap.size w W) => equalI_true hA hl hc iA il ic r.lits W (h1.ext hb) (h3.ext hb)
 have c2 := fun W (hb : Below w.heap.size w W) => equalI_true bA bl bc cA cl cc r.w W (h2.ext hb) (h4.ext hb)
 obtain ⟨B1,B2,BW,C1,C2,H1,H2,H3,H4⟩ := hd9 b1 b2 bW c1 c2 h1 h2 h3 h4; clear b1 b2 bW c1 c2 h1 h2 h3 h4
 go_enter Tryz.func59,Tryz.ntmps59
 go_wp2_with fail
 go_fit (C1.out _ BW.out); rintro e w1 ⟨rfl,hb⟩
 have d1 := B1.out.bel hb
 have d2 := B2.out.bel hb
 have hbw := bel_trans BW.out hb
 have p2 : w1.cell? ⟨w.heap.size,2,none⟩ = some (.slice bA bl bc) := d1.cell 2
 have q2 : w1.cell? ⟨w.heap.size + 1,2,none⟩ = some (.slice cA cl cc) := d2.cell 2
 clear hb
 obtain ⟨D1,D2,HBW⟩ := hd3 d1 d2 hbw; clear d1 d2 hbw
 go_wp2_with fail
 go_fit (C2.out _ HBW.out); rintro e w2 ⟨rfl,hb⟩
 have HBX := Lib.hid (bel_trans HBW.out hb)
 clear hb
 go_wp2_with fail
 go_ret
 exact ⟨rfl,HBX.out⟩
theorem equalM_true (aA : Option Addr) (al ac : Nat) (bA : Option Addr) (bl bc : Nat) (xs : List GMin) (w : World) (ha : SlIs minR w aA al ac xs) (hb : SlIs minR w bA bl bc xs) :
  Calls Tryz.prog 58 #[.slice aA al ac,.slice bA bl bc,.func (.func 59) #[] #[]] w fun e w' => e = .returned (.bool true) ∧ Below w.heap.size w w' := by
 have l1 : bl = al := by rw [ha.len,hb.len]
 subst l1
 have k1 := ha.cap
 have k2 := ha.max
 have k3 := hb.cap
 have k4 := hb.max
 obtain ⟨HA,HB⟩ := hd2 ha hb; clear ha hb
 go_enter Tryz.func58,Tryz.ntmps58
 go_wp2_with fail
 go_loopw [17] (fun t wr => ∃ i : Nat,i ≤ bl ∧ t = .int .i64 (i : Int) ∧ Below w.heap.size w wr) (fun t _ => bl - (intOf t).toNat)
 case atStart => exact ⟨0,Nat.zero_le _,rfl,Below.refl _ _⟩
 case round =>
  obtain ⟨i,hi,rfl,hw⟩ := hrel
  obtain ⟨wo,rfl⟩ : ∃ wo : World,wo = wr := ⟨_,rfl⟩
  by_cases hlt : i < bl
  ·obtain ⟨r,hr,-⟩ := HA.out.drop hlt
   obtain ⟨b1,o1,cA,cl,cc,wA,wl,wc,rfl,q1,x0,x1,x2,g1,g2,g3⟩ := (HA.out.ext hw).min hr
   obtain ⟨b2,o2,dA,dl,dc,yA,yl,yc,rfl,q2,y0,y1,y2,h1,h2,h3⟩ := (HB.out.ext hw).min hr
   have i0 : (0 : Int) ≤ (i : Int) := by omega
   have i1 : (i : Int) < (bl : Int) := by omega
   have z0 := (bel_alloc wo (.cells #[.int .i64 r.level,.slice cA cl cc,.slice wA wl wc] 67)).cell (World.block_lt_of_cell? _ _ y0) |>.trans y0
   have z1 := (bel_alloc wo (.cells #[.int .i64 r.level,.slice cA cl cc,.slice wA wl wc] 67)).cell (World.block_lt_of_cell? _ _ y1) |>.trans y1
   have z2 := (bel_alloc wo (.cells #[.int .i64 r.level,.slice cA cl cc,.slice wA wl wc] 67)).cell (World.block_lt_of_cell? _ _ y2) |>.trans y2
   have b1_ : Blk ((wo.alloc (.cells #[.int .i64 r.level,.slice cA cl cc,.slice wA wl wc] 67)).alloc (.cells #[.int .i64 r.level,.slice dA dl dc,.slice yA yl yc] 67)) wo.heap.size 67 #[.int .i64 r.level,.slice cA cl cc,.slice wA wl wc] := (blk_new rfl _ _).alloc _
   have b2_ : Blk ((wo.alloc (.cells #[.int .i64 r.level,.slice cA cl cc,.slice wA wl wc] 67)).alloc (.cells #[.int .i64 r.level,.slice dA dl dc,.slice yA yl yc] 67)) (wo.heap.size + 1) 67 #[.int .i64 r.level,.slice dA dl dc,.slice yA yl yc] := blk_new (by simp) _ _
   have m0 : ((wo.alloc (.cells #[.int .i64 r.level,.slice cA cl cc,.slice wA wl wc] 67)).alloc (.cells #[.int .i64 r.level,.slice dA dl dc,.slice yA yl yc] 67)).cell? ⟨wo.heap.size,0,none⟩ = some (.int .i64 r.level) := b1_.cell 0
   have m1 : ((wo.alloc (.cells #[.int .i64 r.level,.slice cA cl cc,.slice wA wl wc] 67)).alloc (.cells #[.int .i64 r.level,.slice dA dl dc,.slice yA yl yc] 67)).cell? ⟨wo.heap.size,1,none⟩ = some (.slice cA cl cc) := b1_.cell 1
   have m2 : ((wo.alloc (.cells #[.int .i64 r.level,.slice cA cl cc,.slice wA wl wc] 67)).alloc (.cells #[.int .i64 r.level,.slice dA dl dc,.slice yA yl yc] 67)).cell? ⟨wo.heap.size,2,none⟩ = some (.slice wA wl wc) := b1_.cell 2
   have n0 : ((wo.alloc (.cells #[.int .i64 r.level,.slice cA cl cc,.slice wA wl wc] 67)).alloc (.cells #[.int .i64 r.level,.slice dA dl dc,.slice yA yl yc] 67)).cell? ⟨wo.heap.size + 1,0,none⟩ = some (.int .i64 r.level) := b2_.cell 0
   have n1 : ((wo.alloc (.cells #[.int .i64 r.level,.slice cA cl cc,.slice wA wl wc] 67)).alloc (.cells #[.int .i64 r.level,.slice dA dl dc,.slice yA yl yc] 67)).cell? ⟨wo.heap.size + 1,1,none⟩ = some (.slice dA dl dc) := b2_.cell 1
   have n2 : ((wo.alloc (.cells #[.int .i64 r.level,.slice cA cl cc,.slice wA wl wc] 67)).alloc (.cells #[.int .i64 r.level,.slice dA dl dc,.slice yA yl yc] 67)).cell? ⟨wo.heap.size + 1,2,none⟩ = some (.slice yA yl yc) := b2_.cell 2
   have hb2 : Below wo.heap.size wo ((wo.alloc (.cells #[.int .i64 r.level,.slice cA cl cc,.slice wA wl wc] 67)).alloc (.cells #[.int .i64 r.level,.slice dA dl dc,.slice yA yl yc] 67)) := bel_trans (bel_alloc _ _) (bel_alloc _ _)
   have cS := gsameMin_true r cA cl cc wA wl wc dA dl dc yA yl yc ((wo.alloc (.cells #[.int .i64 r.level,.slice cA cl cc,.slice wA wl wc] 67)).alloc (.cells #[.int .i64 r.level,.slice dA dl dc,.slice yA yl yc] 67)) (g2.ext hb2) (g3.ext hb2) (h2.ext hb2) (h3.ext hb2)
   have hw2 := bel_trans hw hb2
   obtain ⟨HW,HR,CS,G1,G2,G3,H1,H2,H3,B1_,B2_,HB2⟩ := hd12 hw hr cS g1 g2 g3 h1 h2 h3 b1_ b2_ hb2; clear hw hr cS g1 g2 g3 h1 h2 h3 b1_ b2_ hb2
   have HW2 := Lib.hid hw2; clear hw2
   go_wp2_with fail
   go_fit CS.out; rintro e w5 ⟨rfl,hb5⟩
   have HW5 := Lib.hid (bel_trans HW2.out hb5)
   clear hb5
   go_wp2_with fail
   go_roundw
   case rel => exact ⟨i + 1,by omega,by go_num,HW5.out⟩
   case measure => simp [intOf]; omega
  ·have hil : i = bl := by omega
   obtain ⟨HW,HIL⟩ := hd2 hw hil; clear hw hil
   go_wp2_with fail
   go_ret
   exact ⟨rfl,HW.out⟩
theorem gsame_true (p : GProg) (nA : Option Addr) (nl nc : Nat) (sA : Option Addr) (sl sc : Nat) (rA : Option Addr) (rl rc : Nat) (mA : Option Addr) (ml mc : Nat) (nA2 : Option Addr) (nl2 nc2 : Nat) (sA2 : Option Addr) (sl2 sc2 : Nat) (rA2 : Option Addr) (rl2 rc2 : Nat) (mA2 : Option Addr) (ml2 mc2 : Nat) (w : World) (hp : ProgIn w p nA nl nc sA sl sc rA rl rc mA ml mc) (hq : ProgIn w p nA2 nl2 nc2 sA2 sl2 sc2 rA2 rl2 rc2 mA2 ml2 mc2) :
  Calls Tryz.prog 21 #[.agg #[.int .i64 p.n,.slice nA nl nc,.slice sA sl sc,.slice rA rl rc,.slice mA ml mc],.agg #[.int .i64 p.n,.slice nA2 nl2 nc2,.slice sA2 sl2 sc2,.slice rA2 rl2 rc2,.slice mA2 ml2 mc2]] w fun e w' => e = .returned (.bool true) ∧ Below w.heap.size w w' := by
 have c1 := fun W (hb : Below w.heap.size w W) => equalS_true nA nl nc nA2 nl2 nc2 p.names W (hp.names.ext hb) (hq.names.ext hb)
 have c2 := fun W (hb : Below w.heap.size w W) => equalI_true sA sl sc sA2 sl2 sc2 p.shown W (hp.shown.ext hb) (hq.shown.ext hb)
 have c3 := fun W (hb : Below w.heap.size w W) => equalR_true rA rl rc rA2 rl2 rc2 p.rules W (hp.rules.ext hb) (hq.rules.ext hb)
 have c4 := fun W (hb : Below w.heap.size w W) => equalM_true mA ml mc mA2 ml2 mc2 p.min W (hp.min.ext hb) (hq.min.ext hb)
 have bP : Blk ((w.alloc (.cells #[.int .i64 p.n,.slice nA nl nc,.slice sA sl sc,.slice rA rl rc,.slice mA ml mc] 27)).alloc (.cells #[.int .i64 p.n,.slice nA2 nl2 nc2,.slice sA2 sl2 sc2,.slice rA2 rl2 rc2,.slice mA2 ml2 mc2] 27)) w.heap.size 27 #[.int .i64 p.n,.slice nA nl nc,.slice sA sl sc,.slice rA rl rc,.slice mA ml mc] := (blk_new rfl _ _).alloc _
 have bQ : Blk ((w.alloc (.cells #[.int .i64 p.n,.slice nA nl nc,.slice sA sl sc,.slice rA rl rc,.slice mA ml mc] 27)).alloc (.cells #[.int .i64 p.n,.slice nA2 nl2 nc2,.slice sA2 sl2 sc2,.slice rA2 rl2 rc2,.slice mA2 ml2 mc2] 27)) (w.heap.size + 1) 27 #[.int .i64 p.n,.slice nA2 nl2 nc2,.slice sA2 sl2 sc2,.slice rA2 rl2 rc2,.slice mA2 ml2 mc2] := blk_new (by simp) _ _
 have bW : Below w.heap.size w ((w.alloc (.cells #[.int .i64 p.n,.slice nA nl nc,.slice sA sl sc,.slice rA rl rc,.slice mA ml mc] 27)).alloc (.cells #[.int .i64 p.n,.slice nA2 nl2 nc2,.slice sA2 sl2 sc2,.slice rA2 rl2 rc2,.slice mA2 ml2 mc2] 27)) := bel_trans (bel_alloc _ _) (bel_alloc _ _)
 obtain ⟨HP,HQ,C1,C2,C3,C4,BP,BQ,BW⟩ := hd9 hp hq c1 c2 c3 c4 bP bQ bW; clear hp hq c1 c2 c3 c4 bP bQ bW
 go_enter Tryz.func21,Tryz.ntmps21
 go_wp2_with fail
 go_fit (C1.out _ BW.out); rintro e w1 ⟨rfl,hb⟩
 have dP := BP.out.bel hb
 have dQ := BQ.out.bel hb
 have hbw := bel_trans BW.out hb
 have p2 : w1.cell? ⟨w.heap.size,2,none⟩ = some (.slice sA sl sc) := dP.cell 2
 have q2 : w1.cell? ⟨w.heap.size + 1,2,none⟩ = some (.slice sA2 sl2 sc2) := dQ.cell 2
 clear hb
 obtain ⟨DP,DQ,HBW⟩ := hd3 dP dQ hbw; clear dP dQ hbw
 go_wp2_with fail
 go_fit (C2.out _ HBW.out); rintro e w2 ⟨rfl,hb⟩
 have eP := DP.out.bel hb
 have eQ := DQ.out.bel hb
 have hbv := bel_trans HBW.out hb
 have p3 : w2.cell? ⟨w.heap.size,3,none⟩ = some (.slice rA rl rc) := eP.cell 3
 have q3 : w2.cell? ⟨w.heap.size + 1,3,none⟩ = some (.slice rA2 rl2 rc2) := eQ.cell 3
 clear hb p2 q2
 obtain ⟨EP,EQ,HBV⟩ := hd3 eP eQ hbv; clear eP eQ hbv
 go_wp2_with fail
 go_fit (C3.out _ HBV.out); rintro e w3 ⟨rfl,hb⟩
 have fP := EP.out.bel hb
 have fQ := EQ.out.bel hb
 have hbu := bel_trans HBV.out hb
 have p4 : w3.cell? ⟨w.heap.size,4,none⟩ = some (.slice mA ml mc) := fP.cell 4
 have q4 : w3.cell? ⟨w.heap.size + 1,4,none⟩ = some (.slice mA2 ml2 mc2) := fQ.cell 4
 clear hb p3 q3
 obtain ⟨FP,FQ,HBU⟩ := hd3 fP fQ hbu; clear fP fQ hbu
 go_wp2_with fail
 go_fit (C4.out _ HBU.out); rintro e w4 ⟨rfl,hb⟩
 have HBX := Lib.hid (bel_trans HBU.out hb)
 clear hb
 go_wp2_with fail
 go_ret
 exact ⟨rfl,HBX.out⟩
end Go.Proofs.YthdjkenhkedjjaaGreat

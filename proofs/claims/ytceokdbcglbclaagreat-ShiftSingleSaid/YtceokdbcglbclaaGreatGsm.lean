/- Contract: gprog.Same, of two programs that read the same. -/
import Derived.Test.YtceokdbcglbclaaGreatGL
import Derived.Test.YtceokdbcglbclaaGreatGS
import Derived.Deep.QuietTactic
import Derived.BigQuiet
namespace Go.Proofs.YtceokdbcglbclaaGreat
open Go.RowKit Go.Shelf
set_option maxRecDepth 100000 in
set_option maxHeartbeats 2000000 in
theorem equalI_true (aA : Option Addr) (al ac : Nat) (bA : Option Addr) (bl bc : Nat) (xs : List Int) (w : World) (ha : SlIs intR w aA al ac xs) (hb : SlIs intR w bA bl bc xs) :
  Calls Tryz.prog 46 #[.slice aA al ac,.slice bA bl bc] w fun e w' => e = .returned (.bool true) ∧ Below w.heap.size w w' := by
 have l1 : bl = al := by rw [ha.len,hb.len]
 subst l1
 have k1 := ha.cap
 have k2 := ha.max
 have k3 := hb.cap
 have k4 := hb.max
 have HA := Lib.hid ha; clear ha
 have HB := Lib.hid hb; clear hb
 go_enter Tryz.func46,Tryz.ntmps46
 go_wp2_with fail
 go_loopw [13] (fun t wr => ∃ i : Nat,i ≤ bl ∧ t = .int .i64 (i : Int) ∧ Below w.heap.size w wr) (fun t _ => bl - (intOf t).toNat)
 case atStart => exact ⟨0,Nat.zero_le _,rfl,Below.refl _ _⟩
 case round =>
  obtain ⟨i,hi,rfl,hw⟩ := hrel
  by_cases hlt : i < bl
  ·obtain ⟨x,hx,-⟩ := HA.out.drop hlt
   obtain ⟨b1,o1,rfl,_,x1,-⟩ := (HA.out.ext hw).int hx
   obtain ⟨b2,o2,rfl,_,x2,-⟩ := (HB.out.ext hw).int hx
   have i0 : (0 : Int) ≤ (i : Int) := by omega
   have i1 : (i : Int) < (bl : Int) := by omega
   have HW := Lib.hid hw; clear hw
   have HX := Lib.hid hx; clear hx
   go_wp2_with fail
   go_quiet (fail)
   go_wp2_with fail
   go_roundw
   case rel => exact ⟨i + 1,by omega,by go_num,below_drewN HW.out _⟩
   case measure => simp [intOf]; omega
  ·have hil : i = bl := by omega
   have HW := Lib.hid hw; clear hw
   have HIL := Lib.hid hil; clear hil
   go_wp2_with fail
   go_ret
   exact ⟨rfl,HW.out⟩
set_option maxRecDepth 100000 in
set_option maxHeartbeats 2000000 in
theorem equalS_true (aA : Option Addr) (al ac : Nat) (bA : Option Addr) (bl bc : Nat) (xs : List ByteArray) (w : World) (ha : SlIs strR w aA al ac xs) (hb : SlIs strR w bA bl bc xs) :
  Calls Tryz.prog 45 #[.slice aA al ac,.slice bA bl bc] w fun e w' => e = .returned (.bool true) ∧ Below w.heap.size w w' := by
 have l1 : bl = al := by rw [ha.len,hb.len]
 subst l1
 have k1 := ha.cap
 have k2 := ha.max
 have k3 := hb.cap
 have k4 := hb.max
 have HA := Lib.hid ha; clear ha
 have HB := Lib.hid hb; clear hb
 go_enter Tryz.func45,Tryz.ntmps45
 go_wp2_with fail
 go_loopw [13] (fun t wr => ∃ i : Nat,i ≤ bl ∧ t = .int .i64 (i : Int) ∧ Below w.heap.size w wr) (fun t _ => bl - (intOf t).toNat)
 case atStart => exact ⟨0,Nat.zero_le _,rfl,Below.refl _ _⟩
 case round =>
  obtain ⟨i,hi,rfl,hw⟩ := hrel
  by_cases hlt : i < bl
  ·obtain ⟨x,hx,-⟩ := HA.out.drop hlt
   obtain ⟨b1,o1,rfl,_,x1,-⟩ := (HA.out.ext hw).str hx
   obtain ⟨b2,o2,rfl,_,x2,-⟩ := (HB.out.ext hw).str hx
   have i0 : (0 : Int) ≤ (i : Int) := by omega
   have i1 : (i : Int) < (bl : Int) := by omega
   have HW := Lib.hid hw; clear hw
   have HX := Lib.hid hx; clear hx
   go_wp2_with fail
   go_quiet (fail)
   go_wp2_with fail
   go_roundw
   case rel => exact ⟨i + 1,by omega,by go_num,below_drewN HW.out _⟩
   case measure => simp [intOf]; omega
  ·have hil : i = bl := by omega
   have HW := Lib.hid hw; clear hw
   have HIL := Lib.hid hil; clear hil
   go_wp2_with fail
   go_ret
   exact ⟨rfl,HW.out⟩
set_option maxRecDepth 100000 in
set_option maxHeartbeats 2000000 in
theorem gsameRule_true (r : GRule) (hA : Option Addr) (hl hc : Nat) (bA : Option Addr) (bl bc : Nat) (wA : Option Addr) (wl wc : Nat) (iA : Option Addr) (il ic : Nat) (cA : Option Addr) (cl cc : Nat) (xA : Option Addr) (xl xc : Nat) (w : World) (hr : RuleIn w r hA hl hc bA bl bc wA wl wc) (hs : RuleIn w r iA il ic cA cl cc xA xl xc) :
  Calls Tryz.prog 48 #[.agg #[.bool r.choice,.slice hA hl hc,.bool r.sum,.int .i64 r.bound,.slice bA bl bc,.slice wA wl wc],.agg #[.bool r.choice,.slice iA il ic,.bool r.sum,.int .i64 r.bound,.slice cA cl cc,.slice xA xl xc]] w fun e w' => e = .returned (.bool true) ∧ Below w.heap.size w w' := by
 have b1 : Blk ((w.alloc (.cells #[.bool r.choice,.slice hA hl hc,.bool r.sum,.int .i64 r.bound,.slice bA bl bc,.slice wA wl wc] 35)).alloc (.cells #[.bool r.choice,.slice iA il ic,.bool r.sum,.int .i64 r.bound,.slice cA cl cc,.slice xA xl xc] 35)) w.heap.size 35 #[.bool r.choice,.slice hA hl hc,.bool r.sum,.int .i64 r.bound,.slice bA bl bc,.slice wA wl wc] := (blk_new rfl _ _).alloc _
 have b2 : Blk ((w.alloc (.cells #[.bool r.choice,.slice hA hl hc,.bool r.sum,.int .i64 r.bound,.slice bA bl bc,.slice wA wl wc] 35)).alloc (.cells #[.bool r.choice,.slice iA il ic,.bool r.sum,.int .i64 r.bound,.slice cA cl cc,.slice xA xl xc] 35)) (w.heap.size + 1) 35 #[.bool r.choice,.slice iA il ic,.bool r.sum,.int .i64 r.bound,.slice cA cl cc,.slice xA xl xc] := blk_new (by simp) _ _
 have bW : Below w.heap.size w ((w.alloc (.cells #[.bool r.choice,.slice hA hl hc,.bool r.sum,.int .i64 r.bound,.slice bA bl bc,.slice wA wl wc] 35)).alloc (.cells #[.bool r.choice,.slice iA il ic,.bool r.sum,.int .i64 r.bound,.slice cA cl cc,.slice xA xl xc] 35)) := bel_trans (bel_alloc _ _) (bel_alloc _ _)
 have c1 := fun W (hb : Below w.heap.size w W) => equalI_true hA hl hc iA il ic r.head W (hr.head.ext hb) (hs.head.ext hb)
 have c2 := fun W (hb : Below w.heap.size w W) => equalI_true bA bl bc cA cl cc r.body W (hr.body.ext hb) (hs.body.ext hb)
 have c3 := fun W (hb : Below w.heap.size w W) => equalI_true wA wl wc xA xl xc r.w W (hr.wt.ext hb) (hs.wt.ext hb)
 have B1 := Lib.hid b1; clear b1
 have B2 := Lib.hid b2; clear b2
 have BW := Lib.hid bW; clear bW
 have C1 := Lib.hid c1; clear c1
 have C2 := Lib.hid c2; clear c2
 have C3 := Lib.hid c3; clear c3
 have HR := Lib.hid hr; clear hr
 have HS := Lib.hid hs; clear hs
 go_enter Tryz.func48,Tryz.ntmps48
 go_wp2_with fail
 go_fit (C1.out _ BW.out); rintro e w1 ⟨rfl,hb⟩
 have d1 := B1.out.bel hb
 have d2 := B2.out.bel hb
 have hbw := bel_trans BW.out hb
 have p4 : w1.cell? ⟨w.heap.size,4,none⟩ = some (.slice bA bl bc) := d1.cell 4
 have q4 : w1.cell? ⟨w.heap.size + 1,4,none⟩ = some (.slice cA cl cc) := d2.cell 4
 clear hb
 have D1 := Lib.hid d1; clear d1
 have D2 := Lib.hid d2; clear d2
 have HBW := Lib.hid hbw; clear hbw
 go_wp2_with fail
 go_fit (C2.out _ HBW.out); rintro e w2 ⟨rfl,hb⟩
 have d3 := D1.out.bel hb
 have d4 := D2.out.bel hb
 have hbv := bel_trans HBW.out hb
 have p5 : w2.cell? ⟨w.heap.size,5,none⟩ = some (.slice wA wl wc) := d3.cell 5
 have q5 : w2.cell? ⟨w.heap.size + 1,5,none⟩ = some (.slice xA xl xc) := d4.cell 5
 clear hb
 have D3 := Lib.hid d3; clear d3
 have D4 := Lib.hid d4; clear d4
 have HBV := Lib.hid hbv; clear hbv
 go_wp2_with fail
 go_fit (C3.out _ HBV.out); rintro e w3 ⟨rfl,hb⟩
 have HBX := Lib.hid (bel_trans HBV.out hb)
 clear hb
 go_wp2_with fail
 go_ret
 exact ⟨rfl,HBX.out⟩
set_option maxRecDepth 100000 in
set_option maxHeartbeats 4000000 in
theorem equalR_true (aA : Option Addr) (al ac : Nat) (bA : Option Addr) (bl bc : Nat) (xs : List GRule) (w : World) (ha : SlIs ruleR w aA al ac xs) (hb : SlIs ruleR w bA bl bc xs) :
  Calls Tryz.prog 47 #[.slice aA al ac,.slice bA bl bc,.func (.func 48) #[] #[]] w fun e w' => e = .returned (.bool true) ∧ Below w.heap.size w w' := by
 have l1 : bl = al := by rw [ha.len,hb.len]
 subst l1
 have k1 := ha.cap
 have k2 := ha.max
 have k3 := hb.cap
 have k4 := hb.max
 have HA := Lib.hid ha; clear ha
 have HB := Lib.hid hb; clear hb
 go_enter Tryz.func47,Tryz.ntmps47
 go_wp2_with fail
 go_loopw [17] (fun t wr => ∃ i : Nat,i ≤ bl ∧ t = .int .i64 (i : Int) ∧ Below w.heap.size w wr) (fun t _ => bl - (intOf t).toNat)
 case atStart => exact ⟨0,Nat.zero_le _,rfl,Below.refl _ _⟩
 case round =>
  obtain ⟨i,hi,rfl,hw⟩ := hrel
  obtain ⟨wo,rfl⟩ : ∃ wo : World,wo = wr := ⟨_,rfl⟩
  by_cases hlt : i < bl
  ·obtain ⟨r,hr,-⟩ := HA.out.drop hlt
   obtain ⟨b1,o1,hA,hl,hc,cA,cl,cc,wA,wl,wc,rfl,q1,x0,x1,x2,x3,x4,x5,g1,g2,g3,g4⟩ := (HA.out.ext hw).rule hr
   obtain ⟨b2,o2,iA,il,ic,dA,dl,dc,yA,yl,yc,rfl,q2,y0,y1,y2,y3,y4,y5,h1,h2,h3,h4⟩ := (HB.out.ext hw).rule hr
   have i0 : (0 : Int) ≤ (i : Int) := by omega
   have i1 : (i : Int) < (bl : Int) := by omega
   have z0 := (bel_alloc wo (.cells #[.bool r.choice,.slice hA hl hc,.bool r.sum,.int .i64 r.bound,.slice cA cl cc,.slice wA wl wc] 35)).cell (World.block_lt_of_cell? _ _ y0) |>.trans y0
   have z1 := (bel_alloc wo (.cells #[.bool r.choice,.slice hA hl hc,.bool r.sum,.int .i64 r.bound,.slice cA cl cc,.slice wA wl wc] 35)).cell (World.block_lt_of_cell? _ _ y1) |>.trans y1
   have z2 := (bel_alloc wo (.cells #[.bool r.choice,.slice hA hl hc,.bool r.sum,.int .i64 r.bound,.slice cA cl cc,.slice wA wl wc] 35)).cell (World.block_lt_of_cell? _ _ y2) |>.trans y2
   have z3 := (bel_alloc wo (.cells #[.bool r.choice,.slice hA hl hc,.bool r.sum,.int .i64 r.bound,.slice cA cl cc,.slice wA wl wc] 35)).cell (World.block_lt_of_cell? _ _ y3) |>.trans y3
   have z4 := (bel_alloc wo (.cells #[.bool r.choice,.slice hA hl hc,.bool r.sum,.int .i64 r.bound,.slice cA cl cc,.slice wA wl wc] 35)).cell (World.block_lt_of_cell? _ _ y4) |>.trans y4
   have z5 := (bel_alloc wo (.cells #[.bool r.choice,.slice hA hl hc,.bool r.sum,.int .i64 r.bound,.slice cA cl cc,.slice wA wl wc] 35)).cell (World.block_lt_of_cell? _ _ y5) |>.trans y5
   have b1_ : Blk ((wo.alloc (.cells #[.bool r.choice,.slice hA hl hc,.bool r.sum,.int .i64 r.bound,.slice cA cl cc,.slice wA wl wc] 35)).alloc (.cells #[.bool r.choice,.slice iA il ic,.bool r.sum,.int .i64 r.bound,.slice dA dl dc,.slice yA yl yc] 35)) wo.heap.size 35 #[.bool r.choice,.slice hA hl hc,.bool r.sum,.int .i64 r.bound,.slice cA cl cc,.slice wA wl wc] := (blk_new rfl _ _).alloc _
   have b2_ : Blk ((wo.alloc (.cells #[.bool r.choice,.slice hA hl hc,.bool r.sum,.int .i64 r.bound,.slice cA cl cc,.slice wA wl wc] 35)).alloc (.cells #[.bool r.choice,.slice iA il ic,.bool r.sum,.int .i64 r.bound,.slice dA dl dc,.slice yA yl yc] 35)) (wo.heap.size + 1) 35 #[.bool r.choice,.slice iA il ic,.bool r.sum,.int .i64 r.bound,.slice dA dl dc,.slice yA yl yc] := blk_new (by simp) _ _
   have m0 : ((wo.alloc (.cells #[.bool r.choice,.slice hA hl hc,.bool r.sum,.int .i64 r.bound,.slice cA cl cc,.slice wA wl wc] 35)).alloc (.cells #[.bool r.choice,.slice iA il ic,.bool r.sum,.int .i64 r.bound,.slice dA dl dc,.slice yA yl yc] 35)).cell? ⟨wo.heap.size,0,none⟩ = some (.bool r.choice) := b1_.cell 0
   have m1 : ((wo.alloc (.cells #[.bool r.choice,.slice hA hl hc,.bool r.sum,.int .i64 r.bound,.slice cA cl cc,.slice wA wl wc] 35)).alloc (.cells #[.bool r.choice,.slice iA il ic,.bool r.sum,.int .i64 r.bound,.slice dA dl dc,.slice yA yl yc] 35)).cell? ⟨wo.heap.size,1,none⟩ = some (.slice hA hl hc) := b1_.cell 1
   have m2 : ((wo.alloc (.cells #[.bool r.choice,.slice hA hl hc,.bool r.sum,.int .i64 r.bound,.slice cA cl cc,.slice wA wl wc] 35)).alloc (.cells #[.bool r.choice,.slice iA il ic,.bool r.sum,.int .i64 r.bound,.slice dA dl dc,.slice yA yl yc] 35)).cell? ⟨wo.heap.size,2,none⟩ = some (.bool r.sum) := b1_.cell 2
   have m3 : ((wo.alloc (.cells #[.bool r.choice,.slice hA hl hc,.bool r.sum,.int .i64 r.bound,.slice cA cl cc,.slice wA wl wc] 35)).alloc (.cells #[.bool r.choice,.slice iA il ic,.bool r.sum,.int .i64 r.bound,.slice dA dl dc,.slice yA yl yc] 35)).cell? ⟨wo.heap.size,3,none⟩ = some (.int .i64 r.bound) := b1_.cell 3
   have m4 : ((wo.alloc (.cells #[.bool r.choice,.slice hA hl hc,.bool r.sum,.int .i64 r.bound,.slice cA cl cc,.slice wA wl wc] 35)).alloc (.cells #[.bool r.choice,.slice iA il ic,.bool r.sum,.int .i64 r.bound,.slice dA dl dc,.slice yA yl yc] 35)).cell? ⟨wo.heap.size,4,none⟩ = some (.slice cA cl cc) := b1_.cell 4
   have m5 : ((wo.alloc (.cells #[.bool r.choice,.slice hA hl hc,.bool r.sum,.int .i64 r.bound,.slice cA cl cc,.slice wA wl wc] 35)).alloc (.cells #[.bool r.choice,.slice iA il ic,.bool r.sum,.int .i64 r.bound,.slice dA dl dc,.slice yA yl yc] 35)).cell? ⟨wo.heap.size,5,none⟩ = some (.slice wA wl wc) := b1_.cell 5
   have n0 : ((wo.alloc (.cells #[.bool r.choice,.slice hA hl hc,.bool r.sum,.int .i64 r.bound,.slice cA cl cc,.slice wA wl wc] 35)).alloc (.cells #[.bool r.choice,.slice iA il ic,.bool r.sum,.int .i64 r.bound,.slice dA dl dc,.slice yA yl yc] 35)).cell? ⟨wo.heap.size + 1,0,none⟩ = some (.bool r.choice) := b2_.cell 0
   have n1 : ((wo.alloc (.cells #[.bool r.choice,.slice hA hl hc,.bool r.sum,.int .i64 r.bound,.slice cA cl cc,.slice wA wl wc] 35)).alloc (.cells #[.bool r.choice,.slice iA il ic,.bool r.sum,.int .i64 r.bound,.slice dA dl dc,.slice yA yl yc] 35)).cell? ⟨wo.heap.size + 1,1,none⟩ = some (.slice iA il ic) := b2_.cell 1
   have n2 : ((wo.alloc (.cells #[.bool r.choice,.slice hA hl hc,.bool r.sum,.int .i64 r.bound,.slice cA cl cc,.slice wA wl wc] 35)).alloc (.cells #[.bool r.choice,.slice iA il ic,.bool r.sum,.int .i64 r.bound,.slice dA dl dc,.slice yA yl yc] 35)).cell? ⟨wo.heap.size + 1,2,none⟩ = some (.bool r.sum) := b2_.cell 2
   have n3 : ((wo.alloc (.cells #[.bool r.choice,.slice hA hl hc,.bool r.sum,.int .i64 r.bound,.slice cA cl cc,.slice wA wl wc] 35)).alloc (.cells #[.bool r.choice,.slice iA il ic,.bool r.sum,.int .i64 r.bound,.slice dA dl dc,.slice yA yl yc] 35)).cell? ⟨wo.heap.size + 1,3,none⟩ = some (.int .i64 r.bound) := b2_.cell 3
   have n4 : ((wo.alloc (.cells #[.bool r.choice,.slice hA hl hc,.bool r.sum,.int .i64 r.bound,.slice cA cl cc,.slice wA wl wc] 35)).alloc (.cells #[.bool r.choice,.slice iA il ic,.bool r.sum,.int .i64 r.bound,.slice dA dl dc,.slice yA yl yc] 35)).cell? ⟨wo.heap.size + 1,4,none⟩ = some (.slice dA dl dc) := b2_.cell 4
   have n5 : ((wo.alloc (.cells #[.bool r.choice,.slice hA hl hc,.bool r.sum,.int .i64 r.bound,.slice cA cl cc,.slice wA wl wc] 35)).alloc (.cells #[.bool r.choice,.slice iA il ic,.bool r.sum,.int .i64 r.bound,.slice dA dl dc,.slice yA yl yc] 35)).cell? ⟨wo.heap.size + 1,5,none⟩ = some (.slice yA yl yc) := b2_.cell 5
   have hb2 : Below wo.heap.size wo ((wo.alloc (.cells #[.bool r.choice,.slice hA hl hc,.bool r.sum,.int .i64 r.bound,.slice cA cl cc,.slice wA wl wc] 35)).alloc (.cells #[.bool r.choice,.slice iA il ic,.bool r.sum,.int .i64 r.bound,.slice dA dl dc,.slice yA yl yc] 35)) := bel_trans (bel_alloc _ _) (bel_alloc _ _)
   have cS := gsameRule_true r hA hl hc cA cl cc wA wl wc iA il ic dA dl dc yA yl yc ((wo.alloc (.cells #[.bool r.choice,.slice hA hl hc,.bool r.sum,.int .i64 r.bound,.slice cA cl cc,.slice wA wl wc] 35)).alloc (.cells #[.bool r.choice,.slice iA il ic,.bool r.sum,.int .i64 r.bound,.slice dA dl dc,.slice yA yl yc] 35)) (RuleIn.ext ⟨g1,g2,g3,g4⟩ hb2) (RuleIn.ext ⟨h1,h2,h3,h4⟩ hb2)
   have hw2 := bel_trans hw hb2
   have HW := Lib.hid hw; clear hw
   have HR := Lib.hid hr; clear hr
   have CS := Lib.hid cS; clear cS
   have G1 := Lib.hid g1; clear g1
   have G2 := Lib.hid g2; clear g2
   have G3 := Lib.hid g3; clear g3
   have G4 := Lib.hid g4; clear g4
   have H1 := Lib.hid h1; clear h1
   have H2 := Lib.hid h2; clear h2
   have H3 := Lib.hid h3; clear h3
   have H4 := Lib.hid h4; clear h4
   have B1_ := Lib.hid b1_; clear b1_
   have B2_ := Lib.hid b2_; clear b2_
   have HB2 := Lib.hid hb2; clear hb2
   have HW2 := Lib.hid hw2; clear hw2
   go_wp2_with fail
   go_fit CS.out; rintro e w5 ⟨rfl,hb5⟩
   have HW5 := Lib.hid (bel_trans HW2.out hb5)
   clear hb5
   go_wp2_with fail
   go_roundw
   case rel => exact ⟨i + 1,by omega,by go_num,HW5.out⟩
   case measure => simp [intOf]; omega
  ·have hil : i = bl := by omega
   have HW := Lib.hid hw; clear hw
   have HIL := Lib.hid hil; clear hil
   go_wp2_with fail
   go_ret
   exact ⟨rfl,HW.out⟩
set_option maxRecDepth 100000 in
set_option maxHeartbeats 2000000 in
theorem gsameMin_true (r : GMin) (hA : Option Addr) (hl hc : Nat) (bA : Option Addr) (bl bc : Nat) (iA : Option Addr) (il ic : Nat) (cA : Option Addr) (cl cc : Nat) (w : World)
  (h1 : SlIs intR w hA hl hc r.lits) (h2 : SlIs intR w bA bl bc r.w) (h3 : SlIs intR w iA il ic r.lits) (h4 : SlIs intR w cA cl cc r.w) :
  Calls Tryz.prog 50 #[.agg #[.int .i64 r.level,.slice hA hl hc,.slice bA bl bc],.agg #[.int .i64 r.level,.slice iA il ic,.slice cA cl cc]] w fun e w' => e = .returned (.bool true) ∧ Below w.heap.size w w' := by
 have b1 : Blk ((w.alloc (.cells #[.int .i64 r.level,.slice hA hl hc,.slice bA bl bc] 58)).alloc (.cells #[.int .i64 r.level,.slice iA il ic,.slice cA cl cc] 58)) w.heap.size 58 #[.int .i64 r.level,.slice hA hl hc,.slice bA bl bc] := (blk_new rfl _ _).alloc _
 have b2 : Blk ((w.alloc (.cells #[.int .i64 r.level,.slice hA hl hc,.slice bA bl bc] 58)).alloc (.cells #[.int .i64 r.level,.slice iA il ic,.slice cA cl cc] 58)) (w.heap.size + 1) 58 #[.int .i64 r.level,.slice iA il ic,.slice cA cl cc] := blk_new (by simp) _ _
 have bW : Below w.heap.size w ((w.alloc (.cells #[.int .i64 r.level,.slice hA hl hc,.slice bA bl bc] 58)).alloc (.cells #[.int .i64 r.level,.slice iA il ic,.slice cA cl cc] 58)) := bel_trans (bel_alloc _ _) (bel_alloc _ _)
 have c1 := fun W (hb : Below w.heap.size w W) => equalI_true hA hl hc iA il ic r.lits W (h1.ext hb) (h3.ext hb)
 have c2 := fun W (hb : Below w.heap.size w W) => equalI_true bA bl bc cA cl cc r.w W (h2.ext hb) (h4.ext hb)
 have B1 := Lib.hid b1; clear b1
 have B2 := Lib.hid b2; clear b2
 have BW := Lib.hid bW; clear bW
 have C1 := Lib.hid c1; clear c1
 have C2 := Lib.hid c2; clear c2
 have H1 := Lib.hid h1; clear h1
 have H2 := Lib.hid h2; clear h2
 have H3 := Lib.hid h3; clear h3
 have H4 := Lib.hid h4; clear h4
 go_enter Tryz.func50,Tryz.ntmps50
 go_wp2_with fail
 go_fit (C1.out _ BW.out); rintro e w1 ⟨rfl,hb⟩
 have d1 := B1.out.bel hb
 have d2 := B2.out.bel hb
 have hbw := bel_trans BW.out hb
 have p2 : w1.cell? ⟨w.heap.size,2,none⟩ = some (.slice bA bl bc) := d1.cell 2
 have q2 : w1.cell? ⟨w.heap.size + 1,2,none⟩ = some (.slice cA cl cc) := d2.cell 2
 clear hb
 have D1 := Lib.hid d1; clear d1
 have D2 := Lib.hid d2; clear d2
 have HBW := Lib.hid hbw; clear hbw
 go_wp2_with fail
 go_fit (C2.out _ HBW.out); rintro e w2 ⟨rfl,hb⟩
 have HBX := Lib.hid (bel_trans HBW.out hb)
 clear hb
 go_wp2_with fail
 go_ret
 exact ⟨rfl,HBX.out⟩
set_option maxRecDepth 100000 in
set_option maxHeartbeats 4000000 in
theorem equalM_true (aA : Option Addr) (al ac : Nat) (bA : Option Addr) (bl bc : Nat) (xs : List GMin) (w : World) (ha : SlIs minR w aA al ac xs) (hb : SlIs minR w bA bl bc xs) :
  Calls Tryz.prog 49 #[.slice aA al ac,.slice bA bl bc,.func (.func 50) #[] #[]] w fun e w' => e = .returned (.bool true) ∧ Below w.heap.size w w' := by
 have l1 : bl = al := by rw [ha.len,hb.len]
 subst l1
 have k1 := ha.cap
 have k2 := ha.max
 have k3 := hb.cap
 have k4 := hb.max
 have HA := Lib.hid ha; clear ha
 have HB := Lib.hid hb; clear hb
 go_enter Tryz.func49,Tryz.ntmps49
 go_wp2_with fail
 go_loopw [17] (fun t wr => ∃ i : Nat,i ≤ bl ∧ t = .int .i64 (i : Int) ∧ Below w.heap.size w wr) (fun t _ => bl - (intOf t).toNat)
 case atStart => exact ⟨0,Nat.zero_le _,rfl,Below.refl _ _⟩
 case round =>
  obtain ⟨i,hi,rfl,hw⟩ := hrel
  obtain ⟨wo,rfl⟩ : ∃ wo : World,wo = wr := ⟨_,rfl⟩
  by_cases hlt : i < bl
  ·obtain ⟨r,hr,-⟩ := HA.out.drop hlt
   obtain ⟨b1,o1,cA,cl,cc,wA,wl,wc,rfl,q1,x0,x1,x2,g1,g2,g3⟩ := (HA.out.ext hw).min hr
   obtain ⟨b2,o2,dA,dl,dc,yA,yl,yc,rfl,q2,y0,y1,y2,h1,h2,h3⟩ := (HB.out.ext hw).min hr
   have i0 : (0 : Int) ≤ (i : Int) := by omega
   have i1 : (i : Int) < (bl : Int) := by omega
   have z0 := (bel_alloc wo (.cells #[.int .i64 r.level,.slice cA cl cc,.slice wA wl wc] 58)).cell (World.block_lt_of_cell? _ _ y0) |>.trans y0
   have z1 := (bel_alloc wo (.cells #[.int .i64 r.level,.slice cA cl cc,.slice wA wl wc] 58)).cell (World.block_lt_of_cell? _ _ y1) |>.trans y1
   have z2 := (bel_alloc wo (.cells #[.int .i64 r.level,.slice cA cl cc,.slice wA wl wc] 58)).cell (World.block_lt_of_cell? _ _ y2) |>.trans y2
   have b1_ : Blk ((wo.alloc (.cells #[.int .i64 r.level,.slice cA cl cc,.slice wA wl wc] 58)).alloc (.cells #[.int .i64 r.level,.slice dA dl dc,.slice yA yl yc] 58)) wo.heap.size 58 #[.int .i64 r.level,.slice cA cl cc,.slice wA wl wc] := (blk_new rfl _ _).alloc _
   have b2_ : Blk ((wo.alloc (.cells #[.int .i64 r.level,.slice cA cl cc,.slice wA wl wc] 58)).alloc (.cells #[.int .i64 r.level,.slice dA dl dc,.slice yA yl yc] 58)) (wo.heap.size + 1) 58 #[.int .i64 r.level,.slice dA dl dc,.slice yA yl yc] := blk_new (by simp) _ _
   have m0 : ((wo.alloc (.cells #[.int .i64 r.level,.slice cA cl cc,.slice wA wl wc] 58)).alloc (.cells #[.int .i64 r.level,.slice dA dl dc,.slice yA yl yc] 58)).cell? ⟨wo.heap.size,0,none⟩ = some (.int .i64 r.level) := b1_.cell 0
   have m1 : ((wo.alloc (.cells #[.int .i64 r.level,.slice cA cl cc,.slice wA wl wc] 58)).alloc (.cells #[.int .i64 r.level,.slice dA dl dc,.slice yA yl yc] 58)).cell? ⟨wo.heap.size,1,none⟩ = some (.slice cA cl cc) := b1_.cell 1
   have m2 : ((wo.alloc (.cells #[.int .i64 r.level,.slice cA cl cc,.slice wA wl wc] 58)).alloc (.cells #[.int .i64 r.level,.slice dA dl dc,.slice yA yl yc] 58)).cell? ⟨wo.heap.size,2,none⟩ = some (.slice wA wl wc) := b1_.cell 2
   have n0 : ((wo.alloc (.cells #[.int .i64 r.level,.slice cA cl cc,.slice wA wl wc] 58)).alloc (.cells #[.int .i64 r.level,.slice dA dl dc,.slice yA yl yc] 58)).cell? ⟨wo.heap.size + 1,0,none⟩ = some (.int .i64 r.level) := b2_.cell 0
   have n1 : ((wo.alloc (.cells #[.int .i64 r.level,.slice cA cl cc,.slice wA wl wc] 58)).alloc (.cells #[.int .i64 r.level,.slice dA dl dc,.slice yA yl yc] 58)).cell? ⟨wo.heap.size + 1,1,none⟩ = some (.slice dA dl dc) := b2_.cell 1
   have n2 : ((wo.alloc (.cells #[.int .i64 r.level,.slice cA cl cc,.slice wA wl wc] 58)).alloc (.cells #[.int .i64 r.level,.slice dA dl dc,.slice yA yl yc] 58)).cell? ⟨wo.heap.size + 1,2,none⟩ = some (.slice yA yl yc) := b2_.cell 2
   have hb2 : Below wo.heap.size wo ((wo.alloc (.cells #[.int .i64 r.level,.slice cA cl cc,.slice wA wl wc] 58)).alloc (.cells #[.int .i64 r.level,.slice dA dl dc,.slice yA yl yc] 58)) := bel_trans (bel_alloc _ _) (bel_alloc _ _)
   have cS := gsameMin_true r cA cl cc wA wl wc dA dl dc yA yl yc ((wo.alloc (.cells #[.int .i64 r.level,.slice cA cl cc,.slice wA wl wc] 58)).alloc (.cells #[.int .i64 r.level,.slice dA dl dc,.slice yA yl yc] 58)) (g2.ext hb2) (g3.ext hb2) (h2.ext hb2) (h3.ext hb2)
   have hw2 := bel_trans hw hb2
   have HW := Lib.hid hw; clear hw
   have HR := Lib.hid hr; clear hr
   have CS := Lib.hid cS; clear cS
   have G1 := Lib.hid g1; clear g1
   have G2 := Lib.hid g2; clear g2
   have G3 := Lib.hid g3; clear g3
   have H1 := Lib.hid h1; clear h1
   have H2 := Lib.hid h2; clear h2
   have H3 := Lib.hid h3; clear h3
   have B1_ := Lib.hid b1_; clear b1_
   have B2_ := Lib.hid b2_; clear b2_
   have HB2 := Lib.hid hb2; clear hb2
   have HW2 := Lib.hid hw2; clear hw2
   go_wp2_with fail
   go_fit CS.out; rintro e w5 ⟨rfl,hb5⟩
   have HW5 := Lib.hid (bel_trans HW2.out hb5)
   clear hb5
   go_wp2_with fail
   go_roundw
   case rel => exact ⟨i + 1,by omega,by go_num,HW5.out⟩
   case measure => simp [intOf]; omega
  ·have hil : i = bl := by omega
   have HW := Lib.hid hw; clear hw
   have HIL := Lib.hid hil; clear hil
   go_wp2_with fail
   go_ret
   exact ⟨rfl,HW.out⟩
set_option maxRecDepth 100000 in
set_option maxHeartbeats 4000000 in
theorem gsame_true (p : GProg) (nA : Option Addr) (nl nc : Nat) (sA : Option Addr) (sl sc : Nat) (rA : Option Addr) (rl rc : Nat) (mA : Option Addr) (ml mc : Nat) (nA2 : Option Addr) (nl2 nc2 : Nat) (sA2 : Option Addr) (sl2 sc2 : Nat) (rA2 : Option Addr) (rl2 rc2 : Nat) (mA2 : Option Addr) (ml2 mc2 : Nat) (w : World) (hp : ProgIn w p nA nl nc sA sl sc rA rl rc mA ml mc) (hq : ProgIn w p nA2 nl2 nc2 sA2 sl2 sc2 rA2 rl2 rc2 mA2 ml2 mc2) :
  Calls Tryz.prog 21 #[.agg #[.int .i64 p.n,.slice nA nl nc,.slice sA sl sc,.slice rA rl rc,.slice mA ml mc],.agg #[.int .i64 p.n,.slice nA2 nl2 nc2,.slice sA2 sl2 sc2,.slice rA2 rl2 rc2,.slice mA2 ml2 mc2]] w fun e w' => e = .returned (.bool true) ∧ Below w.heap.size w w' := by
 have c1 := fun W (hb : Below w.heap.size w W) => equalS_true nA nl nc nA2 nl2 nc2 p.names W (hp.names.ext hb) (hq.names.ext hb)
 have c2 := fun W (hb : Below w.heap.size w W) => equalI_true sA sl sc sA2 sl2 sc2 p.shown W (hp.shown.ext hb) (hq.shown.ext hb)
 have c3 := fun W (hb : Below w.heap.size w W) => equalR_true rA rl rc rA2 rl2 rc2 p.rules W (hp.rules.ext hb) (hq.rules.ext hb)
 have c4 := fun W (hb : Below w.heap.size w W) => equalM_true mA ml mc mA2 ml2 mc2 p.min W (hp.min.ext hb) (hq.min.ext hb)
 have bP : Blk ((w.alloc (.cells #[.int .i64 p.n,.slice nA nl nc,.slice sA sl sc,.slice rA rl rc,.slice mA ml mc] 27)).alloc (.cells #[.int .i64 p.n,.slice nA2 nl2 nc2,.slice sA2 sl2 sc2,.slice rA2 rl2 rc2,.slice mA2 ml2 mc2] 27)) w.heap.size 27 #[.int .i64 p.n,.slice nA nl nc,.slice sA sl sc,.slice rA rl rc,.slice mA ml mc] := (blk_new rfl _ _).alloc _
 have bQ : Blk ((w.alloc (.cells #[.int .i64 p.n,.slice nA nl nc,.slice sA sl sc,.slice rA rl rc,.slice mA ml mc] 27)).alloc (.cells #[.int .i64 p.n,.slice nA2 nl2 nc2,.slice sA2 sl2 sc2,.slice rA2 rl2 rc2,.slice mA2 ml2 mc2] 27)) (w.heap.size + 1) 27 #[.int .i64 p.n,.slice nA2 nl2 nc2,.slice sA2 sl2 sc2,.slice rA2 rl2 rc2,.slice mA2 ml2 mc2] := blk_new (by simp) _ _
 have bW : Below w.heap.size w ((w.alloc (.cells #[.int .i64 p.n,.slice nA nl nc,.slice sA sl sc,.slice rA rl rc,.slice mA ml mc] 27)).alloc (.cells #[.int .i64 p.n,.slice nA2 nl2 nc2,.slice sA2 sl2 sc2,.slice rA2 rl2 rc2,.slice mA2 ml2 mc2] 27)) := bel_trans (bel_alloc _ _) (bel_alloc _ _)
 have HP := Lib.hid hp; clear hp
 have HQ := Lib.hid hq; clear hq
 have C1 := Lib.hid c1; clear c1
 have C2 := Lib.hid c2; clear c2
 have C3 := Lib.hid c3; clear c3
 have C4 := Lib.hid c4; clear c4
 have BP := Lib.hid bP; clear bP
 have BQ := Lib.hid bQ; clear bQ
 have BW := Lib.hid bW; clear bW
 go_enter Tryz.func21,Tryz.ntmps21
 go_wp2_with fail
 go_fit (C1.out _ BW.out); rintro e w1 ⟨rfl,hb⟩
 have dP := BP.out.bel hb
 have dQ := BQ.out.bel hb
 have hbw := bel_trans BW.out hb
 have p2 : w1.cell? ⟨w.heap.size,2,none⟩ = some (.slice sA sl sc) := dP.cell 2
 have q2 : w1.cell? ⟨w.heap.size + 1,2,none⟩ = some (.slice sA2 sl2 sc2) := dQ.cell 2
 clear hb
 have DP := Lib.hid dP; clear dP
 have DQ := Lib.hid dQ; clear dQ
 have HBW := Lib.hid hbw; clear hbw
 go_wp2_with fail
 go_fit (C2.out _ HBW.out); rintro e w2 ⟨rfl,hb⟩
 have eP := DP.out.bel hb
 have eQ := DQ.out.bel hb
 have hbv := bel_trans HBW.out hb
 have p3 : w2.cell? ⟨w.heap.size,3,none⟩ = some (.slice rA rl rc) := eP.cell 3
 have q3 : w2.cell? ⟨w.heap.size + 1,3,none⟩ = some (.slice rA2 rl2 rc2) := eQ.cell 3
 clear hb p2 q2
 have EP := Lib.hid eP; clear eP
 have EQ := Lib.hid eQ; clear eQ
 have HBV := Lib.hid hbv; clear hbv
 go_wp2_with fail
 go_fit (C3.out _ HBV.out); rintro e w3 ⟨rfl,hb⟩
 have fP := EP.out.bel hb
 have fQ := EQ.out.bel hb
 have hbu := bel_trans HBV.out hb
 have p4 : w3.cell? ⟨w.heap.size,4,none⟩ = some (.slice mA ml mc) := fP.cell 4
 have q4 : w3.cell? ⟨w.heap.size + 1,4,none⟩ = some (.slice mA2 ml2 mc2) := fQ.cell 4
 clear hb p3 q3
 have FP := Lib.hid fP; clear fP
 have FQ := Lib.hid fQ; clear fQ
 have HBU := Lib.hid hbu; clear hbu
 go_wp2_with fail
 go_fit (C4.out _ HBU.out); rintro e w4 ⟨rfl,hb⟩
 have HBX := Lib.hid (bel_trans HBU.out hb)
 clear hb
 go_wp2_with fail
 go_ret
 exact ⟨rfl,HBX.out⟩
end Go.Proofs.YtceokdbcglbclaaGreat

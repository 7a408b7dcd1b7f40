/- Several texts in one: Sw3, Sw4. -/
import Derived.Test.YtdkjanbfheehoaaGreatG5
import Derived.Test.YtdkjanbfheehoaaGreatG1
import Derived.Test.YtdkjanbfheehoaaGreatG6
/- Contracts: slices.Equal and Compare at ints; stable.first, Better. -/
namespace Go.Proofs.YtdkjanbfheehoaaGreat
open Go.RowKit

set_option maxRecDepth 100000 in
set_option maxHeartbeats 1000000 in
theorem sEqual_any (aA : Option Addr) (al ac : Nat) (bA : Option Addr) (bl bc : Nat) (xs ys : List Int) (w : World) (ha : SlIs intR w aA al ac xs) (hb : SlIs intR w bA bl bc ys) :
  Calls Tryz.prog 72 #[.slice aA al ac, .slice bA bl bc] w fun e w' => e = .returned (.bool (decide (xs = ys))) ∧ Below w.heap.size w w' := by
 have hl := ha.cap
 have hm := ha.max
 have hl2 := hb.cap
 have hm2 := hb.max
 have la := Lib.hid ha.len
 have lb := Lib.hid hb.len
 have HA := Lib.hid ha; clear ha
 have HB := Lib.hid hb; clear hb
 by_cases hne : al = bl
 ·subst hne
  go_enter Tryz.func72, Tryz.ntmps72
  go_wp2
  go_loopw [13] (fun i wr => ∃ k : Nat, k ≤ al ∧ i = .int .i64 k ∧ Below w.heap.size w wr ∧ decide (xs = ys) = decide (xs.drop k = ys.drop k)) (fun i _ => al - (intOf i).toNat)
  case atStart => exact ⟨0, Nat.zero_le _, rfl, Below.refl _ _, rfl⟩
  case round =>
   obtain ⟨k, hk, rfl, hbw, hs⟩ := hrel
   have H1 := Lib.hid (HA.out.ext hbw)
   have H2 := Lib.hid (HB.out.ext hbw)
   have HBW := Lib.hid hbw
   clear hbw
   have HS := Lib.hid hs; clear hs
   by_cases hlt : k < al
   ·obtain ⟨x, hx, hd⟩ := HA.out.drop hlt
    obtain ⟨y, hy, hd2⟩ := HB.out.drop hlt
    obtain ⟨b, off, rfl, _, hcell, _⟩ := H1.out.int hx
    obtain ⟨b2, off2, rfl, _, hcell2, _⟩ := H2.out.int hy
    have HX := Lib.hid hx; clear hx
    have HD := Lib.hid hd; clear hd
    have HY := Lib.hid hy; clear hy
    have HD2 := Lib.hid hd2; clear hd2
    have i0 : (0 : Int) ≤ (k : Int) := by omega
    have i1 : (k : Int) < (al : Int) := by omega
    by_cases he : x = y
    ·have HE := Lib.hid he
     have e1 : (x != y) = false := by simpa using he
     clear he
     go_wp2_with fail
     refine wp_region_later [(⟨b, off + k, none⟩, .int .i64 x), (⟨b2, off2 + k, none⟩, .int .i64 y)] (by kernel_rfl) (by kernel_rfl) (by simp [go_sem, *]) ?_
     intro hk; simp only [List.forall_mem_cons] at hk; obtain ⟨k1_0, k1_1, kz⟩ := hk; clear kz
     repeat go_big_quiet_step (fail)
     refine wpQuiet_nil ?_
     rintro w2 ⟨u1, rfl⟩
     have HU1 := Lib.hid u1.h
     clear k1_0 k1_1
     go_wp2_with fail
     go_roundw
     case rel => exact ⟨k + 1, by omega, by go_num, bel_trans HBW.out HU1.out, by rw [HS.out, HD.out, HD2.out, eq_cons, decide_eq_true HE.out, Bool.true_and]⟩
     case measure => simp [intOf]; omega
    ·have HE := Lib.hid he
     have e1 : (x != y) = true := by simpa using he
     clear he
     go_wp2_with fail
     refine wp_region_later [(⟨b, off + k, none⟩, .int .i64 x), (⟨b2, off2 + k, none⟩, .int .i64 y)] (by kernel_rfl) (by kernel_rfl) (by simp [go_sem, *]) ?_
     intro hk; simp only [List.forall_mem_cons] at hk; obtain ⟨k1_0, k1_1, kz⟩ := hk; clear kz
     repeat go_big_quiet_step (fail)
     refine wpQuiet_nil ?_
     rintro w2 ⟨u1, rfl⟩
     have HU1 := Lib.hid u1.h
     clear k1_0 k1_1
     go_wp2_with fail
     go_ret
     exact ⟨ret_bool (by rw [HS.out, HD.out, HD2.out, eq_cons, decide_eq_false HE.out, Bool.false_and]), bel_trans HBW.out HU1.out⟩
   ·go_wp2
    go_ret
    exact ⟨ret_bool (by rw [HS.out, HA.out.stop (by omega), HB.out.stop (by omega)]; rfl), HBW.out⟩
 ·have hn2 : ((al : Int) != (bl : Int)) = true := by simp; omega
  have HNE := Lib.hid hne
  clear hne
  go_enter Tryz.func72, Tryz.ntmps72
  go_wp2
  go_ret
  exact ⟨ret_bool (eq_len (by rw [← la.out, ← lb.out]; exact HNE.out)).symm, Below.refl _ _⟩

theorem cmpL_cons (x y : Int) (r t : List Int) : cmpL (x :: r) (y :: t) = if cmpI x y ≠ 0 then cmpI x y else cmpL r t := by
 rw [show cmpL (x :: r) (y :: t) = if x = y then cmpL r t else if x < y then -1 else 1 from rfl]
 unfold cmpI
 by_cases h1 : x = y
 ·subst h1; simp
 ·rw [if_neg h1]
  by_cases h2 : x < y
  ·simp [h2]
  ·have h3 : y < x := by omega
   simp [h2, h3]
set_option maxRecDepth 100000 in
set_option maxHeartbeats 1000000 in
theorem compareL_any (aA : Option Addr) (al ac : Nat) (bA : Option Addr) (bl bc : Nat) (xs ys : List Int) (w : World) (ha : SlIs intR w aA al ac xs) (hb : SlIs intR w bA bl bc ys) :
  Calls Tryz.prog 34 #[.slice aA al ac, .slice bA bl bc] w fun e w' => e = .returned (.int .i64 (cmpL xs ys)) ∧ w = w' := by
 have hl := ha.cap
 have hm := ha.max
 have hl2 := hb.cap
 have hm2 := hb.max
 have HA := Lib.hid ha; clear ha
 have HB := Lib.hid hb; clear hb
 go_enter Tryz.func34, Tryz.ntmps34
 go_wp2
 go_loop [11] (fun i => ∃ k : Nat, k ≤ al ∧ i = .int .i64 (k : Int) ∧ cmpL xs ys = cmpL (xs.drop k) (ys.drop k)) (fun i => al - (intOf i).toNat)
 case atStart => exact ⟨0, Nat.zero_le _, rfl, rfl⟩
 case round =>
  obtain ⟨k, hk, rfl, hs⟩ := hrel
  by_cases hlt : k < al
  ·obtain ⟨x, hx, hd⟩ := HA.out.drop hlt
   obtain ⟨b1, o1, rfl, _, cx, _⟩ := HA.out.int hx
   have k0 : (0 : Int) ≤ (k : Int) := by omega
   have k1 : (k : Int) < (al : Int) := by omega
   rw [hd] at hs
   by_cases hge : bl ≤ k
   ·have e1 : decide ((bl : Int) ≤ (k : Int)) = true := decide_eq_true (by omega)
    have e2 : (bl : Int) ≤ (k : Int) := by omega
    rw [HB.out.stop hge] at hs
    have HX := Lib.hid hx; clear hx
    have HD := Lib.hid hd; clear hd
    have HS := Lib.hid hs; clear hs
    go_wp2
    go_ret
    exact ⟨ret_int (by rw [HS.out]; rfl), rfl⟩
   ·have hlb : k < bl := by omega
    obtain ⟨y, hy, hdy⟩ := HB.out.drop hlb
    obtain ⟨b2, o2, rfl, _, cy, _⟩ := HB.out.int hy
    have k2 : (k : Int) < (bl : Int) := by omega
    have e2 : ¬ (bl : Int) ≤ (k : Int) := by omega
    have cC := compare_any x y w
    rw [hdy, cmpL_cons] at hs
    generalize cmpI x y = c at *
    by_cases hc : c = 0
    ·subst hc
     rw [if_neg (by simp)] at hs
     have HX := Lib.hid hx; clear hx
     have HD := Lib.hid hd; clear hd
     have HS := Lib.hid hs; clear hs
     have HY := Lib.hid hy; clear hy
     have HDY := Lib.hid hdy; clear hdy
     have CC := Lib.hid cC; clear cC
     go_wp2_with fail
     go_fit CC.out; rintro e w' ⟨rfl, rfl⟩
     go_wp2_with fail
     go_round
     case rel => exact ⟨k + 1, by omega, by go_num, HS.out⟩
     case measure => simp [intOf]; omega
    ·rw [if_pos hc] at hs
     have hc1 : (c != 0) = true := by simpa using hc
     have HX := Lib.hid hx; clear hx
     have HD := Lib.hid hd; clear hd
     have HS := Lib.hid hs; clear hs
     have HY := Lib.hid hy; clear hy
     have HDY := Lib.hid hdy; clear hdy
     have CC := Lib.hid cC; clear cC
     have HC := Lib.hid hc; clear hc
     go_wp2_with fail
     go_fit CC.out; rintro e w' ⟨rfl, rfl⟩
     go_wp2_with fail
     go_ret
     exact ⟨ret_int (by rw [HS.out]), rfl⟩
  ·rw [HA.out.stop (show al ≤ k by omega)] at hs
   have hkl : k = al := by omega
   subst hkl
   by_cases hlb : k < bl
   ·obtain ⟨y, hy, hdy⟩ := HB.out.drop hlb
    have e1 : (k : Int) < (bl : Int) := by omega
    rw [hdy] at hs
    have HS := Lib.hid hs; clear hs
    have HY := Lib.hid hy; clear hy
    have HDY := Lib.hid hdy; clear hdy
    go_wp2_with fail
    go_ret
    exact ⟨ret_int (by rw [HS.out]; rfl), rfl⟩
   ·have e1 : ¬ (k : Int) < (bl : Int) := by omega
    rw [HB.out.stop (by omega)] at hs
    have HS := Lib.hid hs; clear hs
    go_wp2_with fail
    go_ret
    exact ⟨ret_int (by rw [HS.out]; rfl), rfl⟩
/-- The first number that is not 0. -/
def firstG : List Int → Int
 | [] => 0
 | x :: r => if x ≠ 0 then x else firstG r
set_option maxRecDepth 100000 in
set_option maxHeartbeats 1000000 in
theorem first_any (aA : Option Addr) (al ac : Nat) (xs : List Int) (w : World) (ha : SlIs intR w aA al ac xs) :
  Calls Tryz.prog 94 #[.slice aA al ac] w fun e w' => e = .returned (.int .i64 (firstG xs)) ∧ w = w' := by
 have hl := ha.cap
 have hm := ha.max
 have HA := Lib.hid ha; clear ha
 go_enter Tryz.func94, Tryz.ntmps94
 go_wp2
 go_loop [7] (fun i => ∃ k : Nat, k ≤ al ∧ i = .int .i64 (k : Int) ∧ firstG xs = firstG (xs.drop k)) (fun i => al - (intOf i).toNat)
 case atStart => exact ⟨0, Nat.zero_le _, rfl, rfl⟩
 case round =>
  obtain ⟨k, hk, rfl, hs⟩ := hrel
  by_cases hlt : k < al
  ·obtain ⟨x, hx, hd⟩ := HA.out.drop hlt
   obtain ⟨b1, o1, rfl, _, cx, _⟩ := HA.out.int hx
   have k0 : (0 : Int) ≤ (k : Int) := by omega
   have k1 : (k : Int) < (al : Int) := by omega
   rw [hd] at hs
   by_cases hc : x = 0
   ·subst hc
    have HX := Lib.hid hx; clear hx
    have HD := Lib.hid hd; clear hd
    have HS := Lib.hid hs; clear hs
    go_wp2
    go_round
    case rel => exact ⟨k + 1, by omega, by go_num, by rw [HS.out]; rfl⟩
    case measure => simp [intOf]; omega
   ·have hc1 : (x != 0) = true := by simpa using hc
    have hs' : firstG xs = x := by rw [hs]; unfold firstG; rw [if_pos hc]
    have HX := Lib.hid hx; clear hx
    have HD := Lib.hid hd; clear hd
    have HS := Lib.hid hs; clear hs
    have HC := Lib.hid hc; clear hc
    have HS' := Lib.hid hs'; clear hs'
    go_wp2
    go_ret
    exact ⟨ret_int (by rw [HS'.out]), rfl⟩
  ·rw [HA.out.stop (show al ≤ k by omega)] at hs
   have HS := Lib.hid hs; clear hs
   go_wp2
   go_ret
   exact ⟨ret_int (by rw [HS.out]; rfl), rfl⟩
end Go.Proofs.YtdkjanbfheehoaaGreat
/- Contract: stable.Better. -/
namespace Go.Proofs.YtdkjanbfheehoaaGreat
open Go.RowKit

theorem betB_cons (x y : Int) (r t : List Int) : betB (x :: r) (y :: t) = if x = y then betB r t else decide (x < y) := rfl
theorem betB_nil (xs : List Int) : betB xs [] = false := by cases xs <;> rfl
theorem betB_nil' (ys : List Int) : betB [] ys = false := by cases ys <;> rfl
/-- The first sign tells; without one the rest does. -/
def betS (ss xs ys : List Int) : Bool := match ss with
 | [] => betB xs ys
 | s :: _ => decide (s < 0)
theorem betS_app (ss : List Int) (z : Int) (xs ys xs' ys' : List Int) (h : betB xs ys = decide (z < 0)) : betS (ss ++ [z]) xs' ys' = betS ss xs ys := by
 cases ss with
 | nil => exact h.symm
 | cons s t => rfl
theorem betS_first {ss : List Int} (h : ∀ s ∈ ss, s ≠ 0) {xs ys : List Int} (h2 : betB xs ys = false) : betS ss xs ys = decide (firstG ss < 0) := by
 cases ss with
 | nil => exact h2
 | cons s t =>
  have := h s (by simp)
  unfold betS firstG
  rw [if_pos this]
set_option maxRecDepth 100000 in
set_option maxHeartbeats 2000000 in
theorem better_any (aA : Option Addr) (al ac : Nat) (bA : Option Addr) (bl bc : Nat) (xs ys : List Int) (w : World) (ha : SlIs intR w aA al ac xs) (hb : SlIs intR w bA bl bc ys) :
  Calls Tryz.prog 57 #[.slice aA al ac, .slice bA bl bc] w fun e w' => e = .returned (.bool (betB xs ys)) ∧ Below w.heap.size w w' := by
 have hl := ha.cap
 have hm := ha.max
 have hl2 := hb.cap
 have hm2 := hb.max
 have hsm := ha.small
 obtain ⟨q, hq⟩ : ∃ q : Nat, q = min al bl := ⟨_, rfl⟩
 have hmin : min (al : Int) (bl : Int) = (q : Int) := by omega
 have q1 : q ≤ al := by omega
 have q2 : q ≤ bl := by omega
 have HQ := Lib.hid hq
 clear hq
 have HA := Lib.hid ha; clear ha
 have HB := Lib.hid hb; clear hb
 go_enter Tryz.func57, Tryz.ntmps57
 go_wp2_with fail
 go_loopw [5, 12] (fun v t wr => ∃ (k lv : Nat) (ss : List Int), k ≤ q ∧ t = .int .i64 (k : Int) ∧ OwnI wr w.heap.size v lv ss ∧ lv ≤ k ∧ Below w.heap.size w wr ∧ (∀ s ∈ ss, s = -1 ∨ s = 1) ∧ betB xs ys = betS ss (xs.drop k) (ys.drop k)) (fun _ t _ => q - (intOf t).toNat)
 case atStart => exact ⟨0, 0, [], Nat.zero_le _, rfl, OwnI.nil _ _, Nat.le_refl _, Below.refl _ _, by simp, rfl⟩
 case round =>
  obtain ⟨k, lv, ss, hk, rfl, ho, hlv, hbw, hss, hs⟩ := hrel
  have hsz := hbw.size
  by_cases hlt : k < q
  ·obtain ⟨x, hx, hd⟩ := HA.out.drop (show k < al by omega)
   obtain ⟨y, hy, hdy⟩ := HB.out.drop (show k < bl by omega)
   obtain ⟨b1, o1, rfl, _, cx, _⟩ := (HA.out.ext hbw).int hx
   obtain ⟨b2, o2, rfl, _, cy, _⟩ := (HB.out.ext hbw).int hy
   have k0 : (0 : Int) ≤ (k : Int) := by omega
   have k1 : (k : Int) < (al : Int) := by omega
   have k2 : (k : Int) < (bl : Int) := by omega
   have k3 : (k : Int) < (q : Int) := by omega
   rw [hd, hdy] at hs
   by_cases h1 : x < y
   ·have e1 : decide (x < y) = true := decide_eq_true h1
    have hs' : betB xs ys = betS (ss ++ [-1]) (xs.drop (k + 1)) (ys.drop (k + 1)) := by rw [hs]; exact (betS_app ss (-1) _ _ _ _ (by rw [betB_cons, if_neg (by omega)]; simp [h1])).symm
    have HX := Lib.hid hx; clear hx
    have HD := Lib.hid hd; clear hd
    have HY := Lib.hid hy; clear hy
    have HDY := Lib.hid hdy; clear hdy
    have HS := Lib.hid hs; clear hs
    have HS' := Lib.hid hs'; clear hs'
    go_wp2_with fail
    refine wp_region_later [(⟨b1, o1 + k, none⟩, .int .i64 x), (⟨b2, o2 + k, none⟩, .int .i64 y)] (by kernel_rfl) (by kernel_rfl) (by simp [go_sem, *]) ?_
    intro hk; simp only [List.forall_mem_cons] at hk; obtain ⟨k1_0, k1_1, kz⟩ := hk; clear kz
    repeat go_big_quiet_step (fail)
    refine wpQuiet_nil ?_
    rintro w2 ⟨u1, rfl⟩
    have HU1 := Lib.hid u1.h
    clear k1_0 k1_1
    have hbu := bel_trans hbw HU1.out
    obtain ⟨v1, w3, hrun, own1, hg1, hat1⟩ := app1 (ho.bel HU1.out) (-1) (by omega) hbu.size 23
    have hb3 := bel_grown hbu hg1 hbu.size (fun z hz => (ho.2.lt z hz).1)
    have HO := Lib.hid ho; clear ho
    have HBW := Lib.hid hbw; clear hbw
    have HSS := Lib.hid hss; clear hss
    have HBU := Lib.hid hbu; clear hbu
    have HRUN := Lib.hid hrun; clear hrun
    have OWN1 := Lib.hid own1; clear own1
    have HG1 := Lib.hid hg1; clear hg1
    have HAT1 := Lib.hid hat1; clear hat1
    have HB3 := Lib.hid hb3; clear hb3
    go_wp2_with (at_builtin; refine wpList_append_run rfl _ _ _ rfl _ _ rfl rfl _ _ HRUN.out ?_)
    go_roundw
    case rel => exact ⟨k + 1, _, _, by omega, by go_num, OWN1.out, by omega, HB3.out, fun s h => by
     rcases List.mem_append.1 h with h | h
     ·exact HSS.out s h
     ·simp at h; exact .inl h, HS'.out⟩
    case measure => simp [intOf]; omega
   ·have e1 : decide (x < y) = false := decide_eq_false h1
    by_cases h2 : y < x
    ·have e2 : decide (y < x) = true := decide_eq_true h2
     have hs' : betB xs ys = betS (ss ++ [1]) (xs.drop (k + 1)) (ys.drop (k + 1)) := by rw [hs]; exact (betS_app ss 1 _ _ _ _ (by rw [betB_cons, if_neg (by omega)]; simp; omega)).symm
     have HX := Lib.hid hx; clear hx
     have HD := Lib.hid hd; clear hd
     have HY := Lib.hid hy; clear hy
     have HDY := Lib.hid hdy; clear hdy
     have HS := Lib.hid hs; clear hs
     have HS' := Lib.hid hs'; clear hs'
     go_wp2_with fail
     refine wp_region_later [(⟨b1, o1 + k, none⟩, .int .i64 x), (⟨b2, o2 + k, none⟩, .int .i64 y)] (by kernel_rfl) (by kernel_rfl) (by simp [go_sem, *]) ?_
     intro hk; simp only [List.forall_mem_cons] at hk; obtain ⟨k1_0, k1_1, kz⟩ := hk; clear kz
     repeat go_big_quiet_step (fail)
     refine wpQuiet_nil ?_
     rintro w2 ⟨u1, rfl⟩
     have HU1 := Lib.hid u1.h
     clear k1_0 k1_1
     have hbu := bel_trans hbw HU1.out
     have cx2 := (HU1.out.cell (World.block_lt_of_cell? _ _ cx)).trans cx
     have cy2 := (HU1.out.cell (World.block_lt_of_cell? _ _ cy)).trans cy
     have ho2 := ho.bel HU1.out
     clear cx cy
     go_wp2_with fail
     refine wp_region_later [(⟨b1, o1 + k, none⟩, .int .i64 x), (⟨b2, o2 + k, none⟩, .int .i64 y)] (by kernel_rfl) (by kernel_rfl) (by simp [go_sem, *]) ?_
     intro hk; simp only [List.forall_mem_cons] at hk; obtain ⟨k2_0, k2_1, kz⟩ := hk; clear kz
     repeat go_big_quiet_step (fail)
     refine wpQuiet_nil ?_
     rintro w2 ⟨u2, rfl⟩
     have HU2 := Lib.hid u2.h
     clear k2_0 k2_1
     have hbv := bel_trans hbu HU2.out
     obtain ⟨v1, w3, hrun, own1, hg1, hat1⟩ := app1 (ho2.bel HU2.out) 1 (by omega) hbv.size 23
     have hb3 := bel_grown hbv hg1 hbv.size (fun z hz => (ho2.2.lt z hz).1)
     have HO := Lib.hid ho; clear ho
     have HO2 := Lib.hid ho2; clear ho2
     have HBW := Lib.hid hbw; clear hbw
     have HSS := Lib.hid hss; clear hss
     have HBU := Lib.hid hbu; clear hbu
     have HBV := Lib.hid hbv; clear hbv
     have HRUN := Lib.hid hrun; clear hrun
     have OWN1 := Lib.hid own1; clear own1
     have HG1 := Lib.hid hg1; clear hg1
     have HAT1 := Lib.hid hat1; clear hat1
     have HB3 := Lib.hid hb3; clear hb3
     go_wp2_with (at_builtin; refine wpList_append_run rfl _ _ _ rfl _ _ rfl rfl _ _ HRUN.out ?_)
     go_roundw
     case rel => exact ⟨k + 1, _, _, by omega, by go_num, OWN1.out, by omega, HB3.out, fun s h => by
      rcases List.mem_append.1 h with h | h
      ·exact HSS.out s h
      ·simp at h; exact .inr h, HS'.out⟩
     case measure => simp [intOf]; omega
    ·have e2 : decide (y < x) = false := decide_eq_false h2
     have hxy : x = y := by omega
     have hs' : betB xs ys = betS ss (xs.drop (k + 1)) (ys.drop (k + 1)) := by
      rw [hs]
      cases ss with
      | nil => show betB (x :: _) (y :: _) = _; rw [betB_cons, if_pos hxy]; rfl
      | cons s t => rfl
     have HX := Lib.hid hx; clear hx
     have HD := Lib.hid hd; clear hd
     have HY := Lib.hid hy; clear hy
     have HDY := Lib.hid hdy; clear hdy
     have HS := Lib.hid hs; clear hs
     have HS' := Lib.hid hs'; clear hs'
     have HXY := Lib.hid hxy; clear hxy
     go_wp2_with fail
     refine wp_region_later [(⟨b1, o1 + k, none⟩, .int .i64 x), (⟨b2, o2 + k, none⟩, .int .i64 y)] (by kernel_rfl) (by kernel_rfl) (by simp [go_sem, *]) ?_
     intro hk; simp only [List.forall_mem_cons] at hk; obtain ⟨k1_0, k1_1, kz⟩ := hk; clear kz
     repeat go_big_quiet_step (fail)
     refine wpQuiet_nil ?_
     rintro w2 ⟨u1, rfl⟩
     have HU1 := Lib.hid u1.h
     clear k1_0 k1_1
     have hbu := bel_trans hbw HU1.out
     have cx2 := (HU1.out.cell (World.block_lt_of_cell? _ _ cx)).trans cx
     have cy2 := (HU1.out.cell (World.block_lt_of_cell? _ _ cy)).trans cy
     have ho2 := ho.bel HU1.out
     clear cx cy
     go_wp2_with fail
     refine wp_region_later [(⟨b1, o1 + k, none⟩, .int .i64 x), (⟨b2, o2 + k, none⟩, .int .i64 y)] (by kernel_rfl) (by kernel_rfl) (by simp [go_sem, *]) ?_
     intro hk; simp only [List.forall_mem_cons] at hk; obtain ⟨k2_0, k2_1, kz⟩ := hk; clear kz
     repeat go_big_quiet_step (fail)
     refine wpQuiet_nil ?_
     rintro w2 ⟨u2, rfl⟩
     have HU2 := Lib.hid u2.h
     clear k2_0 k2_1
     have hbv := bel_trans hbu HU2.out
     have ho3 := ho2.bel HU2.out
     have HO := Lib.hid ho; clear ho
     have HO2 := Lib.hid ho2; clear ho2
     have HBW := Lib.hid hbw; clear hbw
     have HSS := Lib.hid hss; clear hss
     have HBU := Lib.hid hbu; clear hbu
     have HBV := Lib.hid hbv; clear hbv
     have HO3 := Lib.hid ho3; clear ho3
     go_wp2_with fail
     go_roundw
     case rel => exact ⟨k + 1, _, _, by omega, by go_num, HO3.out, by omega, HBV.out, HSS.out, HS'.out⟩
     case measure => simp [intOf]; omega
  ·have hend : betB (xs.drop k) (ys.drop k) = false := by
    by_cases hc : al ≤ bl
    ·rw [HA.out.stop (show al ≤ k by have := HQ.out; omega)]; exact betB_nil' _
    ·rw [HB.out.stop (show bl ≤ k by have := HQ.out; omega)]; exact betB_nil _
   rw [betS_first (fun s h => by rcases hss s h with h | h <;> omega) hend] at hs
   obtain ⟨vA, vc, rfl, hsv⟩ := ho.sl (by omega) (fun s h => by rcases hss s h with h | h <;> subst h <;> simp [I64])
   have cC := first_any vA lv vc ss wr hsv
   have hbd : -1 ≤ firstG ss ∧ firstG ss ≤ 1 := by
    cases ss with
    | nil => simp [firstG]
    | cons s t =>
     have := hss s (by simp)
     unfold firstG
     rcases this with h | h <;> subst h <;> simp
   generalize firstG ss = g at *
   obtain ⟨hg1, hg2⟩ := hbd
   have HS := Lib.hid hs; clear hs
   have HEND := Lib.hid hend; clear hend
   have HSS := Lib.hid hss; clear hss
   have HSV := Lib.hid hsv; clear hsv
   have CC := Lib.hid cC; clear cC
   have HO := Lib.hid ho; clear ho
   have HBW := Lib.hid hbw; clear hbw
   go_wp2_with fail
   go_fit CC.out; rintro e w' ⟨rfl, rfl⟩
   go_wp2_with fail
   go_ret
   exact ⟨ret_bool (by rw [HS.out]), HBW.out⟩
end Go.Proofs.YtdkjanbfheehoaaGreat

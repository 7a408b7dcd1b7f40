/- The law StableSplit: it answers true and changes nothing that was there. Printed by mkspl.py. -/
import Derived.Test.YtdkjanbfheehoaaGreatShf
import Derived.Test.YtdkjanbfheehoaaGreatGM
import Derived.Test.YtdkjanbfheehoaaGreatSpo
import Derived.Test.YtdkjanbfheehoaaGreatSrm
import Derived.Test.YtdkjanbfheehoaaGreatSl3
import Derived.Test.YtdkjanbfheehoaaGreatSpt
namespace Go.Proofs.YtdkjanbfheehoaaGreat
open Go.RowKit

set_option maxRecDepth 100000 in
set_option maxHeartbeats 40000000 in
theorem stableSplit_any (p q : GProg) (nA : Option Addr) (nl nc : Nat) (sA : Option Addr) (sl sc : Nat) (rA : Option Addr) (rl rc : Nat) (mA : Option Addr) (ml mc : Nat) (n2A : Option Addr) (n2l n2c : Nat) (s2A : Option Addr) (s2l s2c : Nat) (r2A : Option Addr) (r2l r2c : Nat) (m2A : Option Addr) (m2l m2c : Nat) (w : World) (hp : ProgIn w p nA nl nc sA sl sc rA rl rc mA ml mc) (hq : ProgIn w q n2A n2l n2c s2A s2l s2c r2A r2l r2c m2A m2l m2c) :
    Calls Tryz.prog 3 #[.agg #[.int .i64 p.n, .slice nA nl nc, .slice sA sl sc, .slice rA rl rc, .slice mA ml mc], .agg #[.int .i64 q.n, .slice n2A n2l n2c, .slice s2A s2l s2c, .slice r2A r2l r2c, .slice m2A m2l m2c]] w fun e w' => e = .returned (.bool true) ∧ Below w.heap.size w w' := by
  have cS1 := fun W (hb : Below w.heap.size w W) => small_any p nA nl nc sA sl sc rA rl rc mA ml mc W (hp.ext hb)
  have cS2 := fun W (hb : Below w.heap.size w W) => small_any q n2A n2l n2c s2A s2l s2c r2A r2l r2c m2A m2l m2c W (hq.ext hb)
  have cA := awake20_any
  have hrc := hp.rules.cap
  have hrm := hp.rules.max
  have hmc := hp.min.cap
  have hmm := hp.min.max
  have hr2c := hq.rules.cap
  have hr2m := hq.rules.max
  have hm2c := hq.min.cap
  have hm2m := hq.min.max
  obtain ⟨W0, hW0⟩ : ∃ W0, W0 = ((w.alloc (.cells #[.int .i64 p.n, .slice nA nl nc, .slice sA sl sc, .slice rA rl rc, .slice mA ml mc] 27)).alloc (.cells #[.int .i64 q.n, .slice n2A n2l n2c, .slice s2A s2l s2c, .slice r2A r2l r2c, .slice m2A m2l m2c] 27)) := ⟨_, rfl⟩
  have hW : Blk W0 w.heap.size 27 #[.int .i64 p.n, .slice nA nl nc, .slice sA sl sc, .slice rA rl rc, .slice mA ml mc] ∧ Blk W0 (w.heap.size + 1) 27 #[.int .i64 q.n, .slice n2A n2l n2c, .slice s2A s2l s2c, .slice r2A r2l r2c, .slice m2A m2l m2c] ∧ Below w.heap.size w W0 ∧ W0.heap.size = w.heap.size + 2 := by
    rw [hW0]
    exact ⟨(blk_new rfl _ _).alloc _, blk_new (by simp) _ _, bel_trans (bel_alloc _ _) (bel_alloc _ _), by simp⟩
  obtain ⟨bP0, bQ0, hB0, hs0⟩ := hW
  cases hs1 : smallB p
  · rw [hs1] at cS1
    have HP := Lib.hid hp; clear hp
    have HQ := Lib.hid hq; clear hq
    have CS1 := Lib.hid cS1; clear cS1
    have CS2 := Lib.hid cS2; clear cS2
    have CA := Lib.hid cA; clear cA
    have HS1 := Lib.hid hs1; clear hs1
    have BP0 := Lib.hid bP0; clear bP0
    have BQ0 := Lib.hid bQ0; clear bQ0
    have HB0 := Lib.hid hB0; clear hB0
    have HS0 := Lib.hid hs0; clear hs0
    go_enter Tryz.func3, Tryz.ntmps3
    go_wp2_with fail
    rw [← hW0]
    clear hW0
    go_fit (CS1.out _ HB0.out); rintro e w1 ⟨rfl, hb⟩
    have HX := Lib.hid (BP0.out.bel hb)
    have HY := Lib.hid (BQ0.out.bel hb)
    have HBW := Lib.hid (bel_trans HB0.out hb)
    clear hb
    go_wp2_with fail
    go_fit (CA.out _); rintro e wy ⟨rfl, hb⟩
    have HBZ := Lib.hid (bel_trans HBW.out hb)
    clear hb
    go_wp2_with fail
    go_ret
    exact ⟨rfl, HBZ.out⟩
  rw [hs1] at cS1
  cases hs2 : smallB q
  · rw [hs2] at cS2
    have HP := Lib.hid hp; clear hp
    have HQ := Lib.hid hq; clear hq
    have CS1 := Lib.hid cS1; clear cS1
    have CS2 := Lib.hid cS2; clear cS2
    have CA := Lib.hid cA; clear cA
    have HS1 := Lib.hid hs1; clear hs1
    have HS2 := Lib.hid hs2; clear hs2
    have BP0 := Lib.hid bP0; clear bP0
    have BQ0 := Lib.hid bQ0; clear bQ0
    have HB0 := Lib.hid hB0; clear hB0
    have HS0 := Lib.hid hs0; clear hs0
    go_enter Tryz.func3, Tryz.ntmps3
    go_wp2_with fail
    rw [← hW0]
    clear hW0
    go_fit (CS1.out _ HB0.out); rintro e w1 ⟨rfl, hb⟩
    have HX := Lib.hid (BP0.out.bel hb)
    have HY := Lib.hid (BQ0.out.bel hb)
    have HBW := Lib.hid (bel_trans HB0.out hb)
    clear hb
    obtain ⟨p0, p1, p2, p3, p4, p5⟩ := pcells HX.out
    obtain ⟨y0, y1, y2, y3, y4, y5⟩ := pcells HY.out
    go_wp2_with fail
    go_fit (CS2.out _ HBW.out); rintro e w2 ⟨rfl, hb⟩
    replace HX := Lib.hid (HX.out.bel hb)
    replace HBW := Lib.hid (bel_trans HBW.out hb)
    replace HY := Lib.hid (HY.out.bel hb)
    clear hb
    clear p0 p1 p2 p3 p4 p5
    clear y0 y1 y2 y3 y4 y5
    obtain ⟨p0, p1, p2, p3, p4, p5⟩ := pcells HX.out
    obtain ⟨y0, y1, y2, y3, y4, y5⟩ := pcells HY.out
    go_wp2_with fail
    go_fit (CA.out _); rintro e wy ⟨rfl, hb⟩
    have HBZ := Lib.hid (bel_trans HBW.out hb)
    clear hb
    go_wp2_with fail
    go_ret
    exact ⟨rfl, HBZ.out⟩
  rw [hs2] at cS2
  by_cases h3 : 4 < p.n
  · have HP := Lib.hid hp; clear hp
    have HQ := Lib.hid hq; clear hq
    have CS1 := Lib.hid cS1; clear cS1
    have CS2 := Lib.hid cS2; clear cS2
    have CA := Lib.hid cA; clear cA
    have HS1 := Lib.hid hs1; clear hs1
    have HS2 := Lib.hid hs2; clear hs2
    have BP0 := Lib.hid bP0; clear bP0
    have BQ0 := Lib.hid bQ0; clear bQ0
    have HB0 := Lib.hid hB0; clear hB0
    have HS0 := Lib.hid hs0; clear hs0
    go_enter Tryz.func3, Tryz.ntmps3
    go_wp2_with fail
    rw [← hW0]
    clear hW0
    go_fit (CS1.out _ HB0.out); rintro e w1 ⟨rfl, hb⟩
    have HX := Lib.hid (BP0.out.bel hb)
    have HY := Lib.hid (BQ0.out.bel hb)
    have HBW := Lib.hid (bel_trans HB0.out hb)
    clear hb
    obtain ⟨p0, p1, p2, p3, p4, p5⟩ := pcells HX.out
    obtain ⟨y0, y1, y2, y3, y4, y5⟩ := pcells HY.out
    go_wp2_with fail
    go_fit (CS2.out _ HBW.out); rintro e w2 ⟨rfl, hb⟩
    replace HX := Lib.hid (HX.out.bel hb)
    replace HBW := Lib.hid (bel_trans HBW.out hb)
    replace HY := Lib.hid (HY.out.bel hb)
    clear hb
    clear p0 p1 p2 p3 p4 p5
    clear y0 y1 y2 y3 y4 y5
    obtain ⟨p0, p1, p2, p3, p4, p5⟩ := pcells HX.out
    obtain ⟨y0, y1, y2, y3, y4, y5⟩ := pcells HY.out
    go_wp2_with fail
    go_fit (CA.out _); rintro e wy ⟨rfl, hb⟩
    have HBZ := Lib.hid (bel_trans HBW.out hb)
    clear hb
    go_wp2_with fail
    go_ret
    exact ⟨rfl, HBZ.out⟩
  by_cases h4 : 4 < q.n
  · have HP := Lib.hid hp; clear hp
    have HQ := Lib.hid hq; clear hq
    have CS1 := Lib.hid cS1; clear cS1
    have CS2 := Lib.hid cS2; clear cS2
    have CA := Lib.hid cA; clear cA
    have HS1 := Lib.hid hs1; clear hs1
    have HS2 := Lib.hid hs2; clear hs2
    have BP0 := Lib.hid bP0; clear bP0
    have BQ0 := Lib.hid bQ0; clear bQ0
    have HB0 := Lib.hid hB0; clear hB0
    have HS0 := Lib.hid hs0; clear hs0
    go_enter Tryz.func3, Tryz.ntmps3
    go_wp2_with fail
    rw [← hW0]
    clear hW0
    go_fit (CS1.out _ HB0.out); rintro e w1 ⟨rfl, hb⟩
    have HX := Lib.hid (BP0.out.bel hb)
    have HY := Lib.hid (BQ0.out.bel hb)
    have HBW := Lib.hid (bel_trans HB0.out hb)
    clear hb
    obtain ⟨p0, p1, p2, p3, p4, p5⟩ := pcells HX.out
    obtain ⟨y0, y1, y2, y3, y4, y5⟩ := pcells HY.out
    go_wp2_with fail
    go_fit (CS2.out _ HBW.out); rintro e w2 ⟨rfl, hb⟩
    replace HX := Lib.hid (HX.out.bel hb)
    replace HBW := Lib.hid (bel_trans HBW.out hb)
    replace HY := Lib.hid (HY.out.bel hb)
    clear hb
    clear p0 p1 p2 p3 p4 p5
    clear y0 y1 y2 y3 y4 y5
    obtain ⟨p0, p1, p2, p3, p4, p5⟩ := pcells HX.out
    obtain ⟨y0, y1, y2, y3, y4, y5⟩ := pcells HY.out
    go_wp2_with fail
    go_fit (CA.out _); rintro e wy ⟨rfl, hb⟩
    have HBZ := Lib.hid (bel_trans HBW.out hb)
    clear hb
    go_wp2_with fail
    go_ret
    exact ⟨rfl, HBZ.out⟩
  by_cases h5 : 1 < ml
  · have h5' : (1 : Int) < (ml : Int) := by omega
    have HP := Lib.hid hp; clear hp
    have HQ := Lib.hid hq; clear hq
    have CS1 := Lib.hid cS1; clear cS1
    have CS2 := Lib.hid cS2; clear cS2
    have CA := Lib.hid cA; clear cA
    have HS1 := Lib.hid hs1; clear hs1
    have HS2 := Lib.hid hs2; clear hs2
    have BP0 := Lib.hid bP0; clear bP0
    have BQ0 := Lib.hid bQ0; clear bQ0
    have HB0 := Lib.hid hB0; clear hB0
    have HS0 := Lib.hid hs0; clear hs0
    go_enter Tryz.func3, Tryz.ntmps3
    go_wp2_with fail
    rw [← hW0]
    clear hW0
    go_fit (CS1.out _ HB0.out); rintro e w1 ⟨rfl, hb⟩
    have HX := Lib.hid (BP0.out.bel hb)
    have HY := Lib.hid (BQ0.out.bel hb)
    have HBW := Lib.hid (bel_trans HB0.out hb)
    clear hb
    obtain ⟨p0, p1, p2, p3, p4, p5⟩ := pcells HX.out
    obtain ⟨y0, y1, y2, y3, y4, y5⟩ := pcells HY.out
    go_wp2_with fail
    go_fit (CS2.out _ HBW.out); rintro e w2 ⟨rfl, hb⟩
    replace HX := Lib.hid (HX.out.bel hb)
    replace HBW := Lib.hid (bel_trans HBW.out hb)
    replace HY := Lib.hid (HY.out.bel hb)
    clear hb
    clear p0 p1 p2 p3 p4 p5
    clear y0 y1 y2 y3 y4 y5
    obtain ⟨p0, p1, p2, p3, p4, p5⟩ := pcells HX.out
    obtain ⟨y0, y1, y2, y3, y4, y5⟩ := pcells HY.out
    go_wp2_with fail
    go_fit (CA.out _); rintro e wy ⟨rfl, hb⟩
    have HBZ := Lib.hid (bel_trans HBW.out hb)
    clear hb
    go_wp2_with fail
    go_ret
    exact ⟨rfl, HBZ.out⟩
  have h5' : ¬ (1 : Int) < (ml : Int) := by omega
  by_cases h6 : 1 < m2l
  · have h6' : (1 : Int) < (m2l : Int) := by omega
    have HP := Lib.hid hp; clear hp
    have HQ := Lib.hid hq; clear hq
    have CS1 := Lib.hid cS1; clear cS1
    have CS2 := Lib.hid cS2; clear cS2
    have CA := Lib.hid cA; clear cA
    have HS1 := Lib.hid hs1; clear hs1
    have HS2 := Lib.hid hs2; clear hs2
    have BP0 := Lib.hid bP0; clear bP0
    have BQ0 := Lib.hid bQ0; clear bQ0
    have HB0 := Lib.hid hB0; clear hB0
    have HS0 := Lib.hid hs0; clear hs0
    go_enter Tryz.func3, Tryz.ntmps3
    go_wp2_with fail
    rw [← hW0]
    clear hW0
    go_fit (CS1.out _ HB0.out); rintro e w1 ⟨rfl, hb⟩
    have HX := Lib.hid (BP0.out.bel hb)
    have HY := Lib.hid (BQ0.out.bel hb)
    have HBW := Lib.hid (bel_trans HB0.out hb)
    clear hb
    obtain ⟨p0, p1, p2, p3, p4, p5⟩ := pcells HX.out
    obtain ⟨y0, y1, y2, y3, y4, y5⟩ := pcells HY.out
    go_wp2_with fail
    go_fit (CS2.out _ HBW.out); rintro e w2 ⟨rfl, hb⟩
    replace HX := Lib.hid (HX.out.bel hb)
    replace HBW := Lib.hid (bel_trans HBW.out hb)
    replace HY := Lib.hid (HY.out.bel hb)
    clear hb
    clear p0 p1 p2 p3 p4 p5
    clear y0 y1 y2 y3 y4 y5
    obtain ⟨p0, p1, p2, p3, p4, p5⟩ := pcells HX.out
    obtain ⟨y0, y1, y2, y3, y4, y5⟩ := pcells HY.out
    go_wp2_with fail
    go_fit (CA.out _); rintro e wy ⟨rfl, hb⟩
    have HBZ := Lib.hid (bel_trans HBW.out hb)
    clear hb
    go_wp2_with fail
    go_ret
    exact ⟨rfl, HBZ.out⟩
  have h6' : ¬ (1 : Int) < (m2l : Int) := by omega
  have hv1 := (small_is hs1).2.2
  have hv2 := (small_is hs2).2.2
  have hp0 := valid_n hv1
  have hq0 := valid_n hv2
  have hpi := validE_is hv1
  have hqi := validE_is hv2
  have hpr := (few_head (small_is hs1).1).1
  have hqr := (few_head (small_is hs2).1).1
  have hrl := hp.rules.len
  have hr2 := hq.rules.len
  have hml := hp.min.len
  have hm2 := hq.min.len
  have hr16 : rl ≤ 16 := by omega
  have hr216 : r2l ≤ 16 := by omega
  have HP := Lib.hid hp; clear hp
  have HQ := Lib.hid hq; clear hq
  have CS1 := Lib.hid cS1; clear cS1
  have CS2 := Lib.hid cS2; clear cS2
  have CA := Lib.hid cA; clear cA
  have HS1 := Lib.hid hs1; clear hs1
  have HS2 := Lib.hid hs2; clear hs2
  have BP0 := Lib.hid bP0; clear bP0
  have BQ0 := Lib.hid bQ0; clear bQ0
  have HB0 := Lib.hid hB0; clear hB0
  have HS0 := Lib.hid hs0; clear hs0
  have HV1 := Lib.hid hv1; clear hv1
  have HV2 := Lib.hid hv2; clear hv2
  have HPI := Lib.hid hpi; clear hpi
  have HQI := Lib.hid hqi; clear hqi
  have HPR := Lib.hid hpr; clear hpr
  have HQR := Lib.hid hqr; clear hqr
  have HRL := Lib.hid hrl; clear hrl
  have HR2 := Lib.hid hr2; clear hr2
  have HML := Lib.hid hml; clear hml
  have HM2 := Lib.hid hm2; clear hm2
  go_enter Tryz.func3, Tryz.ntmps3
  go_wp2_with fail
  rw [← hW0]
  clear hW0
  go_fit (CS1.out _ HB0.out); rintro e w1 ⟨rfl, hb⟩
  have HX := Lib.hid (BP0.out.bel hb)
  have HY := Lib.hid (BQ0.out.bel hb)
  have HBW := Lib.hid (bel_trans HB0.out hb)
  clear hb
  obtain ⟨p0, p1, p2, p3, p4, p5⟩ := pcells HX.out
  obtain ⟨y0, y1, y2, y3, y4, y5⟩ := pcells HY.out
  go_wp2_with fail
  go_fit (CS2.out _ HBW.out); rintro e w2 ⟨rfl, hb⟩
  replace HX := Lib.hid (HX.out.bel hb)
  replace HBW := Lib.hid (bel_trans HBW.out hb)
  replace HY := Lib.hid (HY.out.bel hb)
  clear hb
  clear p0 p1 p2 p3 p4 p5
  clear y0 y1 y2 y3 y4 y5
  obtain ⟨p0, p1, p2, p3, p4, p5⟩ := pcells HX.out
  obtain ⟨y0, y1, y2, y3, y4, y5⟩ := pcells HY.out
  go_wp2_with fail
  clear p0 p1 p2 p3 p4 p5
  clear y0 y1 y2 y3 y4 y5
  have HBW2 := HBW
  go_loopw [6, 74] (fun v t wr => ∃ (i : Nat), i ≤ r2l ∧ t = .int .i64 (i : Int) ∧ RowO ruleR 32 [] w2.heap.size wr v ((q.rules.take i).map (mvR (shF p.n))) ∧ Below w2.heap.size w2 wr) (fun _ t _ => r2l - (intOf t).toNat)
  case atStart => exact ⟨0, Nat.zero_le _, rfl, RowO.nil (Nat.le_refl _), Below.refl _ _⟩
  case round =>
    obtain ⟨i, hi, rfl, hro, hbs⟩ := hrel
    obtain ⟨wo, rfl⟩ : ∃ wo : World, wo = wr := ⟨_, rfl⟩
    have hL0 : ((q.rules.take i).map (mvR (shF p.n))).length = i := by rw [List.length_map, List.length_take]; have := HR2.out; omega
    obtain ⟨mvA, mvc, hmv, -⟩ := hro.sl (by rw [hL0]; omega)
    rw [hL0] at hmv
    subst hmv
    have HL0 := Lib.hid hL0; clear hL0
    by_cases hlt : i < r2l
    · obtain ⟨r, hri, -⟩ := HQ.out.rules.drop hlt
      have hbws := bel_trans HBW.out hbs
      obtain ⟨bb, off, hA, hl, hc, bA, bl, bc, wA, wl, wc, rfl, hbl2, x0, x1, x2, x3, x4, x5, g1, g2, g3, g4⟩ := HQ.out.rules.rule hri
      have d0 := (hbws.cell (World.block_lt_of_cell? _ _ x0)).trans x0
      have d1 := (hbws.cell (World.block_lt_of_cell? _ _ x1)).trans x1
      have d2 := (hbws.cell (World.block_lt_of_cell? _ _ x2)).trans x2
      have d3 := (hbws.cell (World.block_lt_of_cell? _ _ x3)).trans x3
      have d4 := (hbws.cell (World.block_lt_of_cell? _ _ x4)).trans x4
      have d5 := (hbws.cell (World.block_lt_of_cell? _ _ x5)).trans x5
      clear x0 x1 x2 x3 x4 x5
      have k0 : (0 : Int) ≤ (i : Int) := by omega
      have k1 : (i : Int) < (r2l : Int) := by omega
      have hri_ := HQI.out.rules r (List.mem_of_getElem? hri)
      have hhl : ∀ x ∈ r.head, litB x q.n = true := fun x hx => litB_iff.2 (by have := inc_mem hri_.head x hx; omega)
      have hbl : ∀ x ∈ r.body, litB x q.n = true := ord_lit hri_.body
      have hhc := g1.cap
      have hhm := g1.max
      have hbc := g3.cap
      have hbm := g3.max
      obtain ⟨X4, hX4⟩ : ∃ X4, X4 = wo.alloc (.cells #[.bool r.choice, .slice hA hl hc, .bool r.sum, .int .i64 r.bound, .slice bA bl bc, .slice wA wl wc] 32) := ⟨_, rfl⟩
      obtain ⟨bx, hbx⟩ : ∃ bx, bx = wo.heap.size := ⟨_, rfl⟩
      have hbo : Below wo.heap.size wo X4 := by rw [hX4]; exact bel_alloc _ _
      have hbx5 : Blk X4 bx 32 #[.bool r.choice, .slice hA hl hc, .bool r.sum, .int .i64 r.bound, .slice bA bl bc, .slice wA wl wc] := by rw [hX4, hbx]; exact blk_new rfl _ _
      have hbxl := hbx5.lt
      have hw2 := HBW.out.size
      have hw3 := HX.out.lt
      have hbsz := hbs.size
      have hbx3 : w.heap.size < bx := by rw [hbx]; omega
      have hbx4 := bel_trans hbws hbo
      have hq4 := ((HX.out.bel hbs).bel hbo).cell 0
      have hbxo : bx = wo.heap.size := hbx
      have HRI := Lib.hid hri; clear hri
      have G1 := Lib.hid g1; clear g1
      have G2 := Lib.hid g2; clear g2
      have G3 := Lib.hid g3; clear g3
      have G4 := Lib.hid g4; clear g4
      have HRI_ := Lib.hid hri_; clear hri_
      have HHL := Lib.hid hhl; clear hhl
      have HBL := Lib.hid hbl; clear hbl
      have HBO := Lib.hid hbo; clear hbo
      have HBX5 := Lib.hid hbx5; clear hbx5
      have HBX4 := Lib.hid hbx4; clear hbx4
      have HQ4 := Lib.hid hq4; clear hq4
      have HBXO := Lib.hid hbxo; clear hbxo
      have HRO := Lib.hid hro; clear hro
      have HBS := Lib.hid hbs; clear hbs
      have HBWS := Lib.hid hbws; clear hbws
      go_wp2_with fail
      rw [← hX4, ← hbx]
      clear hX4 hbx d0 d1 d2 d3 d4 d5
      refine wp_region_inv (fun listed a' w' => ∃ (b0 b1 b2 b3 b4 b5 b6 b7 b8 b9 b10 b11 : Bool) (u78 u79 u80 u81 u82 u83 u84 u85 u86 u87 : Value), listed = #[b0, b1, b2, b3, b4, b5, b6, b7, b8, b9, b10, b11] ∧ a' = { tmps := #[.agg #[.int .i64 p.n, .slice nA nl nc, .slice sA sl sc, .slice rA rl rc, .slice mA ml mc], .agg #[.int .i64 q.n, .slice n2A n2l n2c, .slice s2A s2l s2c, .slice (some ⟨bb, off, none⟩) r2l r2c, .slice m2A m2l m2c], .pointer (some ⟨w.heap.size, 0, none⟩), .pointer (some ⟨w.heap.size + 1, 0, none⟩), .bool false, Value.func (Fn.func 7) #[] #[.pointer (some ⟨w.heap.size, 0, none⟩)], .slice mvA i mvc, undef, .pointer (some ⟨bx, 0, none⟩), undef, undef, undef, undef, undef, undef, undef, undef, undef, undef, undef, undef, undef, undef, undef, undef, undef, undef, undef, undef, undef, undef, undef, undef, undef, undef, undef, undef, undef, undef, .agg #[.int .i64 p.n, .slice nA nl nc, .slice sA sl sc, .slice rA rl rc, .slice mA ml mc], .bool true, .bool false, .bool false, .agg #[.int .i64 q.n, .slice n2A n2l n2c, .slice s2A s2l s2c, .slice (some ⟨bb, off, none⟩) r2l r2c, .slice m2A m2l m2c], .bool true, .bool false, .bool false, .bool false, .pointer (some ⟨w.heap.size, 0, none⟩), .int .i64 p.n, .bool (decide (4 < p.n)), .bool (decide (4 < p.n)), .bool (decide (4 < p.n)), .pointer (some ⟨w.heap.size + 1, 0, none⟩), .int .i64 q.n, .bool (decide (4 < q.n)), .bool (decide (4 < p.n) || decide (4 < q.n)), .bool (decide (4 < p.n) || decide (4 < q.n)), .pointer (some ⟨w.heap.size, 4, none⟩), .slice mA ml mc, .int .i64 (ml : Int), .bool (decide (1 < (ml : Int))), .bool (decide (4 < p.n) || decide (4 < q.n) || decide (1 < (ml : Int))), .bool (decide (4 < p.n) || decide (4 < q.n) || decide (1 < (ml : Int))), .pointer (some ⟨w.heap.size + 1, 4, none⟩), .slice m2A m2l m2c, .int .i64 (m2l : Int), .bool (decide (1 < (m2l : Int))), .bool (decide (4 < p.n) || decide (4 < q.n) || decide (1 < (ml : Int)) || decide (1 < (m2l : Int))), undef, Value.func (Fn.func 7) #[] #[.pointer (some ⟨w.heap.size, 0, none⟩)], .pointer (some ⟨w.heap.size + 1, 3, none⟩), .slice (some ⟨bb, off, none⟩) r2l r2c, .int .i64 (r2l : Int), .int .i64 (i : Int), .bool true, .pointer (some ⟨bb, off + i * 6, none⟩), .agg #[.bool r.choice, .slice hA hl hc, .bool r.sum, .int .i64 r.bound, .slice bA bl bc, .slice wA wl wc], u78, u79, u80, u81, u82, u83, u84, u85, u86, u87, u88, u89, u90, u91, u92, undef, undef, undef, undef, undef, undef, undef, undef, undef, undef, undef, undef, undef, undef, undef, undef, undef, undef, undef, undef, undef, undef, undef, undef, undef, undef, undef, undef, undef, undef, undef, undef, undef, undef, undef, undef, undef, undef, undef, undef, undef, undef, undef, undef, undef, undef, undef, undef, undef, undef, undef, undef, undef, undef, undef, undef, undef, undef, undef, undef, undef, undef, undef, undef, undef, undef, undef, undef, undef, undef, undef, undef, undef, undef, undef, undef, undef, undef, undef, undef, undef, undef, undef, undef, undef, undef, undef, undef, undef, undef, undef, undef, undef, undef, undef, undef, undef, undef, undef, undef, undef, undef, undef, undef, undef, undef, undef, undef, undef, undef, undef, undef, undef, undef, undef, undef, undef, undef, undef, undef, undef, undef, undef, undef, undef, undef, undef, undef, undef, undef, undef, undef, undef, undef, undef, undef, undef, undef, undef, undef, undef, undef, undef, undef, undef, undef, undef, undef, undef, undef, undef, undef, undef, undef, undef, undef, undef, undef, undef, undef, undef, undef, undef, undef, undef, undef, undef, undef, undef, undef, undef, undef, undef, undef, undef, undef, undef, undef, undef, undef, undef, undef], defers := [] } ∧ (Kept [bx] X4 w') ∧ (∃ v1 v4, Blk w' bx 32 #[.bool r.choice, v1, .bool r.sum, .int .i64 r.bound, v4, .slice wA wl wc] ∧ (b9 = false → v1 = .slice hA hl hc) ∧ (b9 = true → St [bx] w' (fun V => ∃ A c, v1 = .slice A hl c ∧ SlIs intR V A hl c (r.head.map (shF p.n)) ∧ Frs X4.heap.size A hl)) ∧ (b11 = false → v4 = .slice bA bl bc) ∧ (b11 = true → St [bx] w' (fun V => ∃ A c, v4 = .slice A bl c ∧ SlIs intR V A bl c (r.body.map (shF p.n)) ∧ Frs X4.heap.size A bl))) ∧ (b0 = true → u78 = .func (.func 7) #[] #[.pointer (some ⟨w.heap.size, 0, none⟩)]) ∧ (b1 = true → u79 = .pointer (some ⟨bx, 1, none⟩)) ∧ (b2 = true → u80 = .slice hA hl hc) ∧ (b3 = true → St [bx] w' (fun V => ∃ A c, u81 = .slice A hl c ∧ SlIs intR V A hl c (r.head.map (shF p.n)) ∧ Frs X4.heap.size A hl)) ∧ (b4 = true → u82 = .func (.func 7) #[] #[.pointer (some ⟨w.heap.size, 0, none⟩)]) ∧ (b5 = true → u83 = .pointer (some ⟨bx, 4, none⟩)) ∧ (b6 = true → u84 = .slice bA bl bc) ∧ (b7 = true → St [bx] w' (fun V => ∃ A c, u85 = .slice A bl c ∧ SlIs intR V A bl c (r.body.map (shF p.n)) ∧ Frs X4.heap.size A bl)) ∧ (b8 = true → u86 = .pointer (some ⟨bx, 1, none⟩)) ∧ (b10 = true → u87 = .pointer (some ⟨bx, 4, none⟩)) ∧ (b3 = true → b2 = true) ∧ (b9 = true → b2 = true) ∧ (b7 = true → b6 = true) ∧ (b11 = true → b6 = true)) (by kernel_rfl) ?start ?step ?_
      case start => exact ⟨false, false, false, false, false, false, false, false, false, false, false, false, _, _, _, _, _, _, _, _, _, _, rfl, rfl, (Kept.refl _ _).drew, ⟨_, _, HBX5.out.drew, fun _ => rfl, fun e => (by cases e), fun _ => rfl, fun e => (by cases e)⟩, (by simp), (by simp), (by simp), (by simp), (by simp), (by simp), (by simp), (by simp), (by simp), (by simp), (by simp), (by simp), (by simp), (by simp)⟩
      case step =>
        rintro listed a' w' i o ⟨b0, b1, b2, b3, b4, b5, b6, b7, b8, b9, b10, b11, u78, u79, u80, u81, u82, u83, u84, u85, u86, u87, rfl, rfl, hk0, fB, f0, f1, f2, f3, f4, f5, f6, f7, f8, f10, d3, d9, d7, d11⟩ ho hli hd K hK
        match i, ho, hli, hd with
        | 0, ho, hli, hd =>
          obtain rfl := Option.some.inj ho
          obtain rfl : b0 = false := hli
          go_simp
          exact hK _ _ ⟨_, _, _, _, _, _, _, _, _, _, _, _, _, _, _, _, _, _, _, _, _, _, rfl, rfl, hk0, fB, (fun _ => rfl), f1, f2, f3, f4, f5, f6, f7, f8, f10, d3, d9, d7, d11⟩
        | 1, ho, hli, hd =>
          obtain rfl := Option.some.inj ho
          obtain rfl : b1 = false := hli
          go_simp
          exact hK _ _ ⟨_, _, _, _, _, _, _, _, _, _, _, _, _, _, _, _, _, _, _, _, _, _, rfl, rfl, hk0, fB, f0, (fun _ => rfl), f2, f3, f4, f5, f6, f7, f8, f10, d3, d9, d7, d11⟩
        | 2, ho, hli, hd =>
          obtain rfl := Option.some.inj ho
          obtain rfl : b2 = false := hli
          obtain rfl : b1 = true := hd ⟨1, .data⟩ (by simp) rfl
          obtain rfl := f1 rfl
          have e9 : b9 = false := by
            cases hh : b9 with
            | false => rfl
            | true => have := d9 hh; cases this
          have m1 : w'.cell? ⟨bx, 1, none⟩ = some (.slice hA hl hc) := by obtain ⟨v1, v4, hB, a1, -⟩ := fB; rw [a1 e9] at hB; exact hB.cell 1
          go_simp
          exact hK _ _ ⟨_, _, _, _, _, _, _, _, _, _, _, _, _, _, _, _, _, _, _, _, _, _, rfl, rfl, hk0, fB, f0, f1, (fun _ => rfl), f3, f4, f5, f6, f7, f8, f10, (fun _ => rfl), (fun _ => rfl), d7, d11⟩
        | 3, ho, hli, hd =>
          obtain rfl := Option.some.inj ho
          obtain rfl : b3 = false := hli
          obtain rfl : b0 = true := hd ⟨0, .data⟩ (by simp) rfl
          obtain rfl : b2 = true := hd ⟨2, .data⟩ (by simp) rfl
          obtain rfl := f0 rfl
          obtain rfl := f2 rfl
          have hbv := Kept.below HBX4.out hk0 (by omega) (by simp; omega)
          have hltv := hk0.size
          go_simp
          refine (shf_any w.heap.size p.n q.n hA hl hc r.head w' (hk0.cell HQ4.out (by simp; omega)) hp0 (by omega) (by omega) (G1.out.ext hbv) HHL.out).mono ?_
          rintro e v ⟨A, l', c, rfl, hso, rfl, hfo, hb⟩
          have hk := Kept.of_below hb [bx]
          have hfx := hfo.mono hltv
          have hst : St [bx] v (fun V => SlIs intR V A l' c (r.head.map (shF p.n))) := St.ints hso (hfo.off (fun q hq => by simp at hq; omega))
          exact hK _ _ ⟨_, _, _, _, _, _, _, _, _, _, _, _, _, _, _, _, _, _, _, _, _, _, rfl, rfl, (hk0.trans hk), (by obtain ⟨v1, v4, h, a1, a2, a3, a4⟩ := fB; exact ⟨v1, v4, h.bel hb, a1, fun e => (a2 e).go hk, a3, fun e => (a4 e).go hk⟩), f0, f1, f2, (fun _ => hst.imp fun V h => ⟨A, c, rfl, h, hfx⟩), f4, f5, f6, (fun e => (f7 e).go hk), f8, f10, (fun _ => rfl), d9, d7, d11⟩
        | 4, ho, hli, hd =>
          obtain rfl := Option.some.inj ho
          obtain rfl : b4 = false := hli
          go_simp
          exact hK _ _ ⟨_, _, _, _, _, _, _, _, _, _, _, _, _, _, _, _, _, _, _, _, _, _, rfl, rfl, hk0, fB, f0, f1, f2, f3, (fun _ => rfl), f5, f6, f7, f8, f10, d3, d9, d7, d11⟩
        | 5, ho, hli, hd =>
          obtain rfl := Option.some.inj ho
          obtain rfl : b5 = false := hli
          go_simp
          exact hK _ _ ⟨_, _, _, _, _, _, _, _, _, _, _, _, _, _, _, _, _, _, _, _, _, _, rfl, rfl, hk0, fB, f0, f1, f2, f3, f4, (fun _ => rfl), f6, f7, f8, f10, d3, d9, d7, d11⟩
        | 6, ho, hli, hd =>
          obtain rfl := Option.some.inj ho
          obtain rfl : b6 = false := hli
          obtain rfl : b5 = true := hd ⟨5, .data⟩ (by simp) rfl
          obtain rfl := f5 rfl
          have e9 : b11 = false := by
            cases hh : b11 with
            | false => rfl
            | true => have := d11 hh; cases this
          have m1 : w'.cell? ⟨bx, 4, none⟩ = some (.slice bA bl bc) := by obtain ⟨v1, v4, hB, -, -, a3, -⟩ := fB; rw [a3 e9] at hB; exact hB.cell 4
          go_simp
          exact hK _ _ ⟨_, _, _, _, _, _, _, _, _, _, _, _, _, _, _, _, _, _, _, _, _, _, rfl, rfl, hk0, fB, f0, f1, f2, f3, f4, f5, (fun _ => rfl), f7, f8, f10, d3, d9, (fun _ => rfl), (fun _ => rfl)⟩
        | 7, ho, hli, hd =>
          obtain rfl := Option.some.inj ho
          obtain rfl : b7 = false := hli
          obtain rfl : b4 = true := hd ⟨4, .data⟩ (by simp) rfl
          obtain rfl : b6 = true := hd ⟨6, .data⟩ (by simp) rfl
          obtain rfl := f4 rfl
          obtain rfl := f6 rfl
          have hbv := Kept.below HBX4.out hk0 (by omega) (by simp; omega)
          have hltv := hk0.size
          go_simp
          refine (shf_any w.heap.size p.n q.n bA bl bc r.body w' (hk0.cell HQ4.out (by simp; omega)) hp0 (by omega) (by omega) (G3.out.ext hbv) HBL.out).mono ?_
          rintro e v ⟨A, l', c, rfl, hso, rfl, hfo, hb⟩
          have hk := Kept.of_below hb [bx]
          have hfx := hfo.mono hltv
          have hst : St [bx] v (fun V => SlIs intR V A l' c (r.body.map (shF p.n))) := St.ints hso (hfo.off (fun q hq => by simp at hq; omega))
          exact hK _ _ ⟨_, _, _, _, _, _, _, _, _, _, _, _, _, _, _, _, _, _, _, _, _, _, rfl, rfl, (hk0.trans hk), (by obtain ⟨v1, v4, h, a1, a2, a3, a4⟩ := fB; exact ⟨v1, v4, h.bel hb, a1, fun e => (a2 e).go hk, a3, fun e => (a4 e).go hk⟩), f0, f1, f2, (fun e => (f3 e).go hk), f4, f5, f6, (fun _ => hst.imp fun V h => ⟨A, c, rfl, h, hfx⟩), f8, f10, d3, d9, (fun _ => rfl), d11⟩
        | 8, ho, hli, hd =>
          obtain rfl := Option.some.inj ho
          obtain rfl : b8 = false := hli
          go_simp
          exact hK _ _ ⟨_, _, _, _, _, _, _, _, _, _, _, _, _, _, _, _, _, _, _, _, _, _, rfl, rfl, hk0, fB, f0, f1, f2, f3, f4, f5, f6, f7, (fun _ => rfl), f10, d3, d9, d7, d11⟩
        | 9, ho, hli, hd =>
          obtain rfl := Option.some.inj ho
          obtain rfl : b9 = false := hli
          obtain rfl : b3 = true := hd ⟨3, .data⟩ (by simp) rfl
          obtain rfl : b8 = true := hd ⟨8, .data⟩ (by simp) rfl
          obtain rfl := f8 rfl
          have HDD := Lib.hid (d3 rfl)
          clear d3
          obtain ⟨A, c, rfl, -, hfx⟩ := (f3 rfl).now
          have hst : St [bx] w' (fun V => SlIs intR V A hl c (r.head.map (shF p.n))) := fun V hV => by obtain ⟨A', c', e1, h, -⟩ := f3 rfl V hV; cases e1; exact h
          obtain ⟨v1, v4, hB, a1, a2, a3, a4⟩ := fB
          have m1 := hB.cell 1
          have m2 := hB.frozen 1
          have hk : Kept [bx] w' (w'.setCell ⟨bx, 1, none⟩ (.slice A hl c)) := (Kept.refl _ _).set (.inl (by simp)) _
          have hB2 := hB.set_ 1 (.slice A hl c)
          go_simp
          exact hK _ _ ⟨_, _, _, _, _, _, _, _, _, _, _, _, _, _, _, _, _, _, _, _, _, _, rfl, rfl, (hk0.trans hk), ⟨_, v4, hB2, fun e => (by cases e), fun _ => (hst.go hk).imp fun V h => ⟨A, c, rfl, h, hfx⟩, a3, fun e => (a4 e).go hk⟩, f0, f1, f2, (fun e => (f3 e).go hk), f4, f5, f6, (fun e => (f7 e).go hk), f8, f10, (fun _ => HDD.out), (fun _ => HDD.out), d7, d11⟩
        | 10, ho, hli, hd =>
          obtain rfl := Option.some.inj ho
          obtain rfl : b10 = false := hli
          go_simp
          exact hK _ _ ⟨_, _, _, _, _, _, _, _, _, _, _, _, _, _, _, _, _, _, _, _, _, _, rfl, rfl, hk0, fB, f0, f1, f2, f3, f4, f5, f6, f7, f8, (fun _ => rfl), d3, d9, d7, d11⟩
        | 11, ho, hli, hd =>
          obtain rfl := Option.some.inj ho
          obtain rfl : b11 = false := hli
          obtain rfl : b7 = true := hd ⟨7, .data⟩ (by simp) rfl
          obtain rfl : b10 = true := hd ⟨10, .data⟩ (by simp) rfl
          obtain rfl := f10 rfl
          have HDD := Lib.hid (d7 rfl)
          clear d7
          obtain ⟨A, c, rfl, -, hfx⟩ := (f7 rfl).now
          have hst : St [bx] w' (fun V => SlIs intR V A bl c (r.body.map (shF p.n))) := fun V hV => by obtain ⟨A', c', e1, h, -⟩ := f7 rfl V hV; cases e1; exact h
          obtain ⟨v1, v4, hB, a1, a2, a3, a4⟩ := fB
          have m1 := hB.cell 4
          have m2 := hB.frozen 4
          have hk : Kept [bx] w' (w'.setCell ⟨bx, 4, none⟩ (.slice A bl c)) := (Kept.refl _ _).set (.inl (by simp)) _
          have hB2 := hB.set_ 4 (.slice A bl c)
          go_simp
          exact hK _ _ ⟨_, _, _, _, _, _, _, _, _, _, _, _, _, _, _, _, _, _, _, _, _, _, rfl, rfl, (hk0.trans hk), ⟨v1, _, hB2, a1, fun e => (a2 e).go hk, fun e => (by cases e), fun _ => (hst.go hk).imp fun V h => ⟨A, c, rfl, h, hfx⟩⟩, f0, f1, f2, (fun e => (f3 e).go hk), f4, f5, f6, (fun e => (f7 e).go hk), f8, f10, d3, d9, (fun _ => HDD.out), (fun _ => HDD.out)⟩
        | i + 12, ho, hli, hd => simp at ho
      rintro listed a' w' ⟨b0, b1, b2, b3, b4, b5, b6, b7, b8, b9, b10, b11, u78, u79, u80, u81, u82, u83, u84, u85, u86, u87, rfl, rfl, hk0, fB, f0, f1, f2, f3, f4, f5, f6, f7, f8, f10, d3, d9, d7, d11⟩ hr
      obtain rfl : b0 = true := ready_nil hr (i := 0) rfl (by first | (simp; done) | (simp; intro q; exact absurd q (by decide)))
      obtain rfl : b1 = true := ready_nil hr (i := 1) rfl (by first | (simp; done) | (simp; intro q; exact absurd q (by decide)))
      obtain rfl : b2 = true := ready_nil hr (i := 2) rfl (by first | (simp; done) | (simp; intro q; exact absurd q (by decide)))
      obtain rfl : b3 = true := ready_nil hr (i := 3) rfl (by first | (simp; done) | (simp; intro q; exact absurd q (by decide)))
      obtain rfl : b4 = true := ready_nil hr (i := 4) rfl (by first | (simp; done) | (simp; intro q; exact absurd q (by decide)))
      obtain rfl : b5 = true := ready_nil hr (i := 5) rfl (by first | (simp; done) | (simp; intro q; exact absurd q (by decide)))
      obtain rfl : b6 = true := ready_nil hr (i := 6) rfl (by first | (simp; done) | (simp; intro q; exact absurd q (by decide)))
      obtain rfl : b7 = true := ready_nil hr (i := 7) rfl (by first | (simp; done) | (simp; intro q; exact absurd q (by decide)))
      obtain rfl : b8 = true := ready_nil hr (i := 8) rfl (by first | (simp; done) | (simp; intro q; exact absurd q (by decide)))
      obtain rfl : b9 = true := ready_nil hr (i := 9) rfl (by first | (simp; done) | (simp; intro q; exact absurd q (by decide)))
      obtain rfl : b10 = true := ready_nil hr (i := 10) rfl (by first | (simp; done) | (simp; intro q; exact absurd q (by decide)))
      obtain rfl : b11 = true := ready_nil hr (i := 11) rfl (by first | (simp; done) | (simp; intro q; exact absurd q (by decide)))
      clear hr
      obtain ⟨v1, v4, hBx, -, a2, -, a4⟩ := fB
      obtain ⟨A1, c1, rfl, hh1, hf1⟩ := (a2 rfl).now
      obtain ⟨A4, c4, rfl, hh4, hf4⟩ := (a4 rfl).now
      clear a2 a4 f0 f1 f2 f3 f4 f5 f6 f7 f8 f10 d3 d9 d7 d11
      have hbv := Kept.below HBX4.out hk0 (by omega) (by simp; omega)
      have hbo2 := Kept.below HBO.out hk0 HBO.out.size (by simp; have := HBXO.out; omega)
      have hro := HRO.out.bel hbo2
      have hbs2 := bel_trans HBS.out hbo2
      have hown : ∀ k ∈ [] ++ ownL (.slice mvA i mvc), w2.heap.size ≤ k ∧ k < X4.heap.size := fun k hk => by
        have h1 := HRO.out.lt (ownL_mem.1 (by simpa using hk))
        have := HBO.out.size
        omega
      have hel : Stab ruleR ([] ++ ownL (.slice mvA i mvc)) w' [.bool r.choice, .slice A1 hl c1, .bool r.sum, .int .i64 r.bound, .slice A4 bl c4, .slice wA wl wc] (mvR (shF p.n) r) :=
        Stab.rule (r := mvR (shF p.n) r) (StabS.ints hh1 (hf1.off fun k hk => (hown k hk).2)) G2.out (StabS.ints hh4 (hf4.off fun k hk => (hown k hk).2)) (StabS.ints (G4.out.ext hbv) (off_before G4.out fun k hk => by have := (hown k hk).1; have := HBW2.out.size; omega))
      obtain ⟨v', w8, hrun, ro, hg, hat⟩ := hro.app1 ety_rule _ _ hel (by rw [HL0.out]; omega) 24
      have hb8 := bel_grown hbs2 hg hbs2.size (fun k hk => (hro.lt hk).1)
      have hst : (q.rules.take i).map (mvR (shF p.n)) ++ [mvR (shF p.n) r] = (q.rules.take (i + 1)).map (mvR (shF p.n)) := by
        rw [List.take_add_one, HRI.out, List.map_append]; rfl
      rw [hst] at ro
      clear hg hat hel hown hh1 hh4 hf1 hf4 hst hbs2
      have HRO := Lib.hid hro; clear hro
      have HRUN := Lib.hid hrun; clear hrun
      have RO := Lib.hid ro; clear ro
      have HBX := Lib.hid hBx; clear hBx
      have HBV := Lib.hid hbv; clear hbv
      have HBO2 := Lib.hid hbo2; clear hbo2
      have HK0 := Lib.hid hk0; clear hk0
      have HB8 := Lib.hid hb8; clear hb8
      go_wp2_with (first
        | (refine wpList_load_row (by rfl) 32 _ (by rfl) bx (by rfl) 32 #[.bool r.choice, .slice A1 hl c1, .bool r.sum, .int .i64 r.bound, .slice A4 bl c4, .slice wA wl wc] (0, 0) _ HBX.out Tryz.underlying32 rfl info_rule ?_)
        | (at_builtin; refine wpList_append_run rfl _ _ _ rfl _ _ rfl rfl _ _ HRUN.out ?_))
      go_roundw
      case rel => exact ⟨_, _, _, _, _, _, _, _, _, _, _, _, _, _, _, _, _, _, _, _, _, ⟨i + 1, by omega, by go_num, RO.out, HB8.out⟩, rfl⟩
      case measure => simp [intOf]; omega
    have hil : r2l = i := by omega
    subst hil
    rw [List.take_of_length_le (show q.rules.length ≤ r2l by have := HR2.out; omega)] at hro
    obtain ⟨X3, rfl⟩ : ∃ X3 : World, X3 = wo := ⟨_, rfl⟩
    have hbw3 := bel_trans HBW.out hbs
    have hx3 := HX.out.bel hbs
    have hy3 := HY.out.bel hbs
    obtain ⟨p0, p1, p2, p3, p4, p5⟩ := pcells hx3
    obtain ⟨y0, y1, y2, y3, y4, y5⟩ := pcells hy3
    have hmv0 := HL0.out
    rw [List.take_of_length_le (show q.rules.length ≤ r2l by have := HR2.out; omega)] at hmv0
    have hmvs := hro.sl (by rw [hmv0]; omega)
    obtain ⟨mA', mc', hme, hms⟩ := hmvs
    rw [hmv0] at hme hms
    injection hme with e1 e2 e3
    subst e1 e3
    have HBW3 := Lib.hid hbw3; clear hbw3
    have HX3 := Lib.hid hx3; clear hx3
    have HY3 := Lib.hid hy3; clear hy3
    have HRO := Lib.hid hro; clear hro
    have HMV0 := Lib.hid hmv0; clear hmv0
    have HMS := Lib.hid hms; clear hms
    go_wp2_with fail
    clear p0 p1 p2 p3 p4 p5
    clear y0 y1 y2 y3 y4 y5
    obtain ⟨MR, hMR⟩ : ∃ MR, MR = q.rules.map (mvR (shF p.n)) := ⟨_, rfl⟩
    have hmr := HMS.out
    rw [← hMR] at hmr
    have hpre : ∀ r ∈ MR, PreRule r (p.n + q.n) := fun r hr => by
      rw [hMR] at hr
      obtain ⟨x, hx, rfl⟩ := List.mem_map.1 hr
      exact pre_sh hp0 (by omega) (HQI.out.rules x hx)
    have hwv : validE (withP p.n p.rules) = 0 := withP_valid hp0 (by omega) (by have := HPR.out; omega) fun r hr => ex_ruleE (HPI.out.rules r hr)
    have hws : ∀ r ∈ p.rules, r.head.length ≤ 100000 ∧ r.body.length ≤ 100000 ∧ r.w.length ≤ 100000 := fun r hr => by
      have hi := HPI.out.rules r hr
      have h1 := inc_lenN hp0 hi.head
      have h2 := ordB_len hp0 hi.body
      refine ⟨by omega, by omega, ?_⟩
      cases hs : r.sum with
      | true => rw [hi.wlen hs]; omega
      | false => rw [(hi.plain hs).1]; simp
    have hpN : ((p.n.toNat : Nat) : Int) = p.n := by omega
    have hqN : ((q.n.toNat : Nat) : Int) = q.n := by omega
    obtain ⟨EP, hEP⟩ : ∃ EP, EP = extP (withP p.n p.rules) q.n.toNat MR := ⟨_, rfl⟩
    have hnz : ∀ r ∈ EP.rules, (∀ x ∈ r.head, x ≠ 0) ∧ (∀ x ∈ r.body, x ≠ 0) ∧ ∀ x ∈ r.w, x ≠ 0 := fun r hr => by
      rw [hEP] at hr
      rcases List.mem_append.1 (show r ∈ p.rules ++ MR.map normR from hr) with h | h
      · exact rule_nz (HPI.out.rules r h)
      · obtain ⟨x, hx, rfl⟩ := List.mem_map.1 h
        exact rule_nz (norm_is (hpre x hx))
    have hwn : (withP p.n p.rules).n = p.n := by simp only [withP]
    have hesh : EP.shown = [] ∧ EP.min = [] := by rw [hEP]; exact ⟨rfl, rfl⟩
    have hx3l := HX3.out.lt
    have hy3l := HY3.out.lt
    clear HX HY HBW HBW2
    have HMR_ := Lib.hid hmr
    clear hmr
    have HMR := Lib.hid hMR; clear hMR
    have HPRE := Lib.hid hpre; clear hpre
    have HWV := Lib.hid hwv; clear hwv
    have HWS := Lib.hid hws; clear hws
    have HEP := Lib.hid hEP; clear hEP
    have HPN := Lib.hid hpN; clear hpN
    have HQN := Lib.hid hqN; clear hqN
    have HNZ := Lib.hid hnz; clear hnz
    have HESH := Lib.hid hesh; clear hesh
    have HWN := Lib.hid hwn; clear hwn
    refine wp_region_inv (fun listed a' w' => ∃ (b0 b1 b2 b3 b4 b5 b6 b7 b8 b9 b10 b11 b12 b13 b14 : Bool) (u9 u10 u93 u94 u95 u96 u97 u98 u99 u100 u101 u102 u103 u104 : Value), listed = #[b0, b1, b2, b3, b4, b5, b6, b7, b8, b9, b10, b11, b12, b13, b14] ∧ a' = { tmps := #[.agg #[.int .i64 p.n, .slice nA nl nc, .slice sA sl sc, .slice rA rl rc, .slice mA ml mc], .agg #[.int .i64 q.n, .slice n2A n2l n2c, .slice s2A s2l s2c, .slice r2A r2l r2c, .slice m2A m2l m2c], .pointer (some ⟨w.heap.size, 0, none⟩), .pointer (some ⟨w.heap.size + 1, 0, none⟩), .bool false, Value.func (Fn.func 7) #[] #[.pointer (some ⟨w.heap.size, 0, none⟩)], .slice mvA r2l mvc, undef, u8, u9, u10, undef, undef, undef, undef, undef, undef, undef, undef, undef, undef, undef, undef, undef, undef, undef, undef, undef, undef, undef, undef, undef, undef, undef, undef, undef, undef, undef, undef, .agg #[.int .i64 p.n, .slice nA nl nc, .slice sA sl sc, .slice rA rl rc, .slice mA ml mc], .bool true, .bool false, .bool false, .agg #[.int .i64 q.n, .slice n2A n2l n2c, .slice s2A s2l s2c, .slice r2A r2l r2c, .slice m2A m2l m2c], .bool true, .bool false, .bool false, .bool false, .pointer (some ⟨w.heap.size, 0, none⟩), .int .i64 p.n, .bool (decide (4 < p.n)), .bool (decide (4 < p.n)), .bool (decide (4 < p.n)), .pointer (some ⟨w.heap.size + 1, 0, none⟩), .int .i64 q.n, .bool (decide (4 < q.n)), .bool (decide (4 < p.n) || decide (4 < q.n)), .bool (decide (4 < p.n) || decide (4 < q.n)), .pointer (some ⟨w.heap.size, 4, none⟩), .slice mA ml mc, .int .i64 (ml : Int), .bool (decide (1 < (ml : Int))), .bool (decide (4 < p.n) || decide (4 < q.n) || decide (1 < (ml : Int))), .bool (decide (4 < p.n) || decide (4 < q.n) || decide (1 < (ml : Int))), .pointer (some ⟨w.heap.size + 1, 4, none⟩), .slice m2A m2l m2c, .int .i64 (m2l : Int), .bool (decide (1 < (m2l : Int))), .bool (decide (4 < p.n) || decide (4 < q.n) || decide (1 < (ml : Int)) || decide (1 < (m2l : Int))), undef, Value.func (Fn.func 7) #[] #[.pointer (some ⟨w.heap.size, 0, none⟩)], .pointer (some ⟨w.heap.size + 1, 3, none⟩), .slice r2A r2l r2c, .int .i64 (r2l : Int), .int .i64 (r2l : Int), .bool false, u76, u77, u78, u79, u80, u81, u82, u83, u84, u85, u86, u87, u88, u89, u90, u91, u92, u93, u94, u95, u96, u97, u98, u99, u100, u101, u102, u103, u104, undef, undef, undef, undef, undef, undef, undef, undef, undef, undef, undef, undef, undef, undef, undef, undef, undef, undef, undef, undef, undef, undef, undef, undef, undef, undef, undef, undef, undef, undef, undef, undef, undef, undef, undef, undef, undef, undef, undef, undef, undef, undef, undef, undef, undef, undef, undef, undef, undef, undef, undef, undef, undef, undef, undef, undef, undef, undef, undef, undef, undef, undef, undef, undef, undef, undef, undef, undef, undef, undef, undef, undef, undef, undef, undef, undef, undef, undef, undef, undef, undef, undef, undef, undef, undef, undef, undef, undef, undef, undef, undef, undef, undef, undef, undef, undef, undef, undef, undef, undef, undef, undef, undef, undef, undef, undef, undef, undef, undef, undef, undef, undef, undef, undef, undef, undef, undef, undef, undef, undef, undef, undef, undef, undef, undef, undef, undef, undef, undef, undef, undef, undef, undef, undef, undef, undef, undef, undef, undef, undef, undef, undef, undef, undef, undef, undef, undef, undef, undef, undef, undef, undef, undef, undef, undef, undef, undef, undef, undef, undef, undef, undef, undef, undef, undef, undef, undef, undef, undef, undef], defers := [] } ∧ (Kept [] X3 w') ∧ (b0 = true → u94 = .pointer (some ⟨w.heap.size, 0, none⟩)) ∧ (b1 = true → u95 = .int .i64 p.n) ∧ (b2 = true → u96 = .pointer (some ⟨w.heap.size, 3, none⟩)) ∧ (b3 = true → u97 = .slice rA rl rc) ∧ (b4 = true → b13 = false → St [] w' (fun V => ∃ (x : Option Addr) (y z : Nat), u98 = .agg #[.int .i64 p.n, .slice x y z, .slice none 0 0, .slice rA rl rc, .slice none 0 0] ∧ ProgIn V (withP p.n p.rules) x y z none 0 0 rA rl rc none 0 0)) ∧ (b5 = true → u99 = .pointer (some ⟨w.heap.size + 1, 0, none⟩)) ∧ (b6 = true → u100 = .int .i64 q.n) ∧ (b7 = true → u101 = .slice mvA r2l mvc) ∧ (b8 = true → b13 = false → St [] w' (fun V => ∃ (x0 : Option Addr) (y0 z0 : Nat) (x1 : Option Addr) (y1 z1 : Nat) (x2 : Option Addr) (y2 z2 : Nat) (x3 : Option Addr) (y3 z3 : Nat), u102 = .tuple #[.agg #[.int .i64 (p.n + q.n), .slice x0 y0 z0, .slice x1 y1 z1, .slice x2 y2 z2, .slice x3 y3 z3], .int .i64 0] ∧ ProgIn V EP x0 y0 z0 x1 y1 z1 x2 y2 z2 x3 y3 z3)) ∧ (b9 = true → b13 = false → St [] w' (fun V => ∃ (x0 : Option Addr) (y0 z0 : Nat) (x1 : Option Addr) (y1 z1 : Nat) (x2 : Option Addr) (y2 z2 : Nat) (x3 : Option Addr) (y3 z3 : Nat), u93 = .tuple #[.agg #[.int .i64 (p.n + q.n), .slice x0 y0 z0, .slice x1 y1 z1, .slice x2 y2 z2, .slice x3 y3 z3], .int .i64 0] ∧ ProgIn V EP x0 y0 z0 x1 y1 z1 x2 y2 z2 x3 y3 z3)) ∧ (b10 = true → b13 = false → St [] w' (fun V => ∃ (x0 : Option Addr) (y0 z0 : Nat) (x1 : Option Addr) (y1 z1 : Nat) (x2 : Option Addr) (y2 z2 : Nat) (x3 : Option Addr) (y3 z3 : Nat), u103 = .agg #[.int .i64 (p.n + q.n), .slice x0 y0 z0, .slice x1 y1 z1, .slice x2 y2 z2, .slice x3 y3 z3] ∧ ProgIn V EP x0 y0 z0 x1 y1 z1 x2 y2 z2 x3 y3 z3)) ∧ (b11 = true → u104 = .int .i64 0) ∧ (b12 = true → b13 = false → ∃ g cs, u9 = .pointer (some ⟨g, 0, none⟩) ∧ X3.heap.size ≤ g ∧ cs = ZR ∧ Blk w' g 27 cs) ∧ (b13 = true → b12 = true ∧ ∃ (g : Nat) (x0 : Option Addr) (y0 z0 : Nat) (x1 : Option Addr) (y1 z1 : Nat) (x2 : Option Addr) (y2 z2 : Nat) (x3 : Option Addr) (y3 z3 : Nat), u9 = .pointer (some ⟨g, 0, none⟩) ∧ X3.heap.size ≤ g ∧ Blk w' g 27 #[.int .i64 (p.n + q.n), .slice x0 y0 z0, .slice x1 y1 z1, .slice x2 y2 z2, .slice x3 y3 z3] ∧ St [g] w' (fun V => ProgIn V EP x0 y0 z0 x1 y1 z1 x2 y2 z2 x3 y3 z3)) ∧ (b9 = true → ∃ (x0 : Option Addr) (y0 z0 : Nat) (x1 : Option Addr) (y1 z1 : Nat) (x2 : Option Addr) (y2 z2 : Nat) (x3 : Option Addr) (y3 z3 : Nat), u93 = .tuple #[.agg #[.int .i64 (p.n + q.n), .slice x0 y0 z0, .slice x1 y1 z1, .slice x2 y2 z2, .slice x3 y3 z3], .int .i64 0]) ∧ (b9 = true → b8 = true) ∧ (b10 = true → b9 = true) ∧ (b13 = true → b10 = true) ∧ (b14 = true → u10 = .int .i64 0)) (by kernel_rfl) ?start ?step ?_
    case start => exact ⟨false, false, false, false, false, false, false, false, false, false, false, false, false, false, false, _, _, _, _, _, _, _, _, _, _, _, _, _, _, rfl, rfl, (Kept.refl _ _).drew, (by simp), (by simp), (by simp), (by simp), (by simp), (by simp), (by simp), (by simp), (by simp), (by simp), (by simp), (by simp), (by simp), (by simp), (by simp), (by simp), (by simp), (by simp), (by simp)⟩
    case step =>
      rintro listed a' w' i o ⟨b0, b1, b2, b3, b4, b5, b6, b7, b8, b9, b10, b11, b12, b13, b14, u9, u10, u93, u94, u95, u96, u97, u98, u99, u100, u101, u102, u103, u104, rfl, rfl, hk0, f0, f1, f2, f3, f4, f5, f6, f7, f8, f9, f10, f11, f12, f13, f9s, d9, d10, d13, f14⟩ ho hli hd K hK
      match i, ho, hli, hd with
      | 0, ho, hli, hd =>
        obtain rfl := Option.some.inj ho
        obtain rfl : b0 = false := hli
        go_simp
        exact hK _ _ ⟨_, _, _, _, _, _, _, _, _, _, _, _, _, _, _, _, _, _, _, _, _, _, _, _, _, _, _, _, _, rfl, rfl, hk0, (fun _ => rfl), f1, f2, f3, f4, f5, f6, f7, f8, f9, f10, f11, f12, f13, f9s, d9, d10, d13, f14⟩
      | 1, ho, hli, hd =>
        obtain rfl := Option.some.inj ho
        obtain rfl : b1 = false := hli
        obtain rfl : b0 = true := hd ⟨0, .data⟩ (by simp) rfl
        obtain rfl := f0 rfl
        have m0 : w'.cell? ⟨w.heap.size, 0, none⟩ = some (.int .i64 p.n) := (hk0.blk HX3.out (by simp)).cell 0
        go_simp
        exact hK _ _ ⟨_, _, _, _, _, _, _, _, _, _, _, _, _, _, _, _, _, _, _, _, _, _, _, _, _, _, _, _, _, rfl, rfl, hk0, f0, (fun _ => rfl), f2, f3, f4, f5, f6, f7, f8, f9, f10, f11, f12, f13, f9s, d9, d10, d13, f14⟩
      | 2, ho, hli, hd =>
        obtain rfl := Option.some.inj ho
        obtain rfl : b2 = false := hli
        go_simp
        exact hK _ _ ⟨_, _, _, _, _, _, _, _, _, _, _, _, _, _, _, _, _, _, _, _, _, _, _, _, _, _, _, _, _, rfl, rfl, hk0, f0, f1, (fun _ => rfl), f3, f4, f5, f6, f7, f8, f9, f10, f11, f12, f13, f9s, d9, d10, d13, f14⟩
      | 3, ho, hli, hd =>
        obtain rfl := Option.some.inj ho
        obtain rfl : b3 = false := hli
        obtain rfl : b2 = true := hd ⟨2, .data⟩ (by simp) rfl
        obtain rfl := f2 rfl
        have m3 : w'.cell? ⟨w.heap.size, 3, none⟩ = some (.slice rA rl rc) := (hk0.blk HX3.out (by simp)).cell 3
        go_simp
        exact hK _ _ ⟨_, _, _, _, _, _, _, _, _, _, _, _, _, _, _, _, _, _, _, _, _, _, _, _, _, _, _, _, _, rfl, rfl, hk0, f0, f1, f2, (fun _ => rfl), f4, f5, f6, f7, f8, f9, f10, f11, f12, f13, f9s, d9, d10, d13, f14⟩
      | 4, ho, hli, hd =>
        obtain rfl := Option.some.inj ho
        obtain rfl : b4 = false := hli
        obtain rfl : b1 = true := hd ⟨1, .data⟩ (by simp) rfl
        obtain rfl : b3 = true := hd ⟨3, .data⟩ (by simp) rfl
        obtain rfl := f1 rfl
        obtain rfl := f3 rfl
        have hbv := Kept.below HBW3.out hk0 HBW3.out.size (by simp)
        have cW := with20_any rA rl rc p.rules p.n.toNat w' (HP.out.rules.ext hbv) (by omega)
        rw [HPN.out] at cW
        go_simp
        refine cW.mono ?_
        rintro e v ⟨x, y, z, rfl, hpw, hb, -⟩
        have hk := Kept.of_below hb []
        exact hK _ _ ⟨_, _, _, _, _, _, _, _, _, _, _, _, _, _, _, _, _, _, _, _, _, _, _, _, _, _, _, _, _, rfl, rfl, (hk0.trans hk), f0, f1, f2, f3, (fun _ _ V hV => ⟨x, y, z, rfl, hpw.ext hV.bel0⟩), f5, f6, f7, (fun e e2 => (f8 e e2).go hk), (fun e e2 => (f9 e e2).go hk), (fun e e2 => (f10 e e2).go hk), f11, (fun e e0 => by obtain ⟨g, cs, e1, e2, e4, e3⟩ := f12 e e0; exact ⟨g, cs, e1, e2, e4, e3.bel hb⟩), (fun e => by obtain ⟨e0, g, x0, y0, z0, x1, y1, z1, x2, y2, z2, x3, y3, z3, e1, e2, e3, e4⟩ := f13 e; exact ⟨e0, g, x0, y0, z0, x1, y1, z1, x2, y2, z2, x3, y3, z3, e1, e2, e3.bel hb, e4.bel hb⟩), f9s, d9, d10, d13, f14⟩
      | 5, ho, hli, hd =>
        obtain rfl := Option.some.inj ho
        obtain rfl : b5 = false := hli
        go_simp
        exact hK _ _ ⟨_, _, _, _, _, _, _, _, _, _, _, _, _, _, _, _, _, _, _, _, _, _, _, _, _, _, _, _, _, rfl, rfl, hk0, f0, f1, f2, f3, f4, (fun _ => rfl), f6, f7, f8, f9, f10, f11, f12, f13, f9s, d9, d10, d13, f14⟩
      | 6, ho, hli, hd =>
        obtain rfl := Option.some.inj ho
        obtain rfl : b6 = false := hli
        obtain rfl : b5 = true := hd ⟨5, .data⟩ (by simp) rfl
        obtain rfl := f5 rfl
        have m0 : w'.cell? ⟨w.heap.size + 1, 0, none⟩ = some (.int .i64 q.n) := (hk0.blk HY3.out (by simp)).cell 0
        go_simp
        exact hK _ _ ⟨_, _, _, _, _, _, _, _, _, _, _, _, _, _, _, _, _, _, _, _, _, _, _, _, _, _, _, _, _, rfl, rfl, hk0, f0, f1, f2, f3, f4, f5, (fun _ => rfl), f7, f8, f9, f10, f11, f12, f13, f9s, d9, d10, d13, f14⟩
      | 7, ho, hli, hd =>
        obtain rfl := Option.some.inj ho
        obtain rfl : b7 = false := hli
        go_simp
        exact hK _ _ ⟨_, _, _, _, _, _, _, _, _, _, _, _, _, _, _, _, _, _, _, _, _, _, _, _, _, _, _, _, _, rfl, rfl, hk0, f0, f1, f2, f3, f4, f5, f6, (fun _ => rfl), f8, f9, f10, f11, f12, f13, f9s, d9, d10, d13, f14⟩
      | 8, ho, hli, hd =>
        obtain rfl := Option.some.inj ho
        obtain rfl : b8 = false := hli
        obtain rfl : b4 = true := hd ⟨4, .data⟩ (by simp) rfl
        obtain rfl : b6 = true := hd ⟨6, .data⟩ (by simp) rfl
        obtain rfl : b7 = true := hd ⟨7, .data⟩ (by simp) rfl
        have e13 : b13 = false := Bool.eq_false_iff.2 fun h => by have := d9 (d10 (d13 h)); cases this
        subst e13
        obtain ⟨x, y, z, rfl, hpw⟩ := (f4 rfl rfl).now
        obtain rfl := f6 rfl
        obtain rfl := f7 rfl
        have hbv := Kept.below HBW3.out hk0 HBW3.out.size (by simp)
        have hy1 : y ≤ 100000 := by
          have hyl := hpw.names.len
          have hyr : (withP p.n p.rules).names.length = p.n.toNat := by unfold withP; simp
          omega
        have hmr2 := HMR_.out.ext hk0.bel0
        have cE := extend_any (withP p.n p.rules) x y z none 0 0 rA rl rc none 0 0 q.n.toNat mvA r2l mvc MR w' hpw HWV.out (by rw [HQN.out]; show p.n + q.n ≤ 4000; omega) (by omega) HWS.out (by intro r hr; cases hr) hmr2 (by omega) (by rw [HQN.out]; exact HPRE.out)
        rw [HQN.out, ← HEP.out, HWN.out] at cE
        go_simp
        refine cE.mono ?_
        rintro e v ⟨x0, y0, z0, x1, y1, z1, x2, y2, z2, x3, y3, z3, rfl, hpe, hb⟩
        have hk := Kept.of_below hb []
        exact hK _ _ ⟨_, _, _, _, _, _, _, _, _, _, _, _, _, _, _, _, _, _, _, _, _, _, _, _, _, _, _, _, _, rfl, rfl, (hk0.trans hk), f0, f1, f2, f3, (fun e e2 => (f4 e e2).go hk), f5, f6, f7, (fun _ _ V hV => ⟨x0, y0, z0, x1, y1, z1, x2, y2, z2, x3, y3, z3, rfl, hpe.ext hV.bel0⟩), (fun e e2 => (f9 e e2).go hk), (fun e e2 => (f10 e e2).go hk), f11, (fun e e0 => by obtain ⟨g, cs, e1, e2, e4, e3⟩ := f12 e e0; exact ⟨g, cs, e1, e2, e4, e3.bel hb⟩), (fun e => by obtain ⟨e0, g, x0, y0, z0, x1, y1, z1, x2, y2, z2, x3, y3, z3, e1, e2, e3, e4⟩ := f13 e; exact ⟨e0, g, x0, y0, z0, x1, y1, z1, x2, y2, z2, x3, y3, z3, e1, e2, e3.bel hb, e4.bel hb⟩), f9s, (fun _ => rfl), d10, d13, f14⟩
      | 9, ho, hli, hd =>
        obtain rfl := Option.some.inj ho
        obtain rfl : b9 = false := hli
        obtain rfl : b8 = true := hd ⟨8, .data⟩ (by simp) rfl
        have e13 : b13 = false := Bool.eq_false_iff.2 fun h => by have := d10 (d13 h); cases this
        subst e13
        go_simp
        exact hK _ _ ⟨_, _, _, _, _, _, _, _, _, _, _, _, _, _, _, _, _, _, _, _, _, _, _, _, _, _, _, _, _, rfl, rfl, hk0, f0, f1, f2, f3, f4, f5, f6, f7, f8, (fun _ _ => f8 rfl rfl), f10, f11, f12, f13, (fun _ => by obtain ⟨x0, y0, z0, x1, y1, z1, x2, y2, z2, x3, y3, z3, e1, -⟩ := (f8 rfl rfl).now; exact ⟨x0, y0, z0, x1, y1, z1, x2, y2, z2, x3, y3, z3, e1⟩), (fun _ => rfl), (fun _ => rfl), d13, f14⟩
      | 10, ho, hli, hd =>
        obtain rfl := Option.some.inj ho
        obtain rfl : b10 = false := hli
        obtain rfl : b9 = true := hd ⟨9, .data⟩ (by simp) rfl
        have e13 : b13 = false := Bool.eq_false_iff.2 fun h => by have := d13 h; cases this
        subst e13
        obtain ⟨x0, y0, z0, x1, y1, z1, x2, y2, z2, x3, y3, z3, rfl⟩ := f9s rfl
        go_simp
        exact hK _ _ ⟨_, _, _, _, _, _, _, _, _, _, _, _, _, _, _, _, _, _, _, _, _, _, _, _, _, _, _, _, _, rfl, rfl, hk0, f0, f1, f2, f3, f4, f5, f6, f7, f8, f9, (fun _ _ => (f9 rfl rfl).imp fun V h => by obtain ⟨x0', y0', z0', x1', y1', z1', x2', y2', z2', x3', y3', z3', e1, h1⟩ := h; cases e1; exact ⟨_, _, _, _, _, _, _, _, _, _, _, _, rfl, h1⟩), f11, f12, f13, (fun _ => ⟨x0, y0, z0, x1, y1, z1, x2, y2, z2, x3, y3, z3, rfl⟩), d9, (fun _ => rfl), (fun _ => rfl), f14⟩
      | 11, ho, hli, hd =>
        obtain rfl := Option.some.inj ho
        obtain rfl : b11 = false := hli
        obtain rfl : b9 = true := hd ⟨9, .data⟩ (by simp) rfl
        obtain ⟨x0, y0, z0, x1, y1, z1, x2, y2, z2, x3, y3, z3, rfl⟩ := f9s rfl
        go_simp
        exact hK _ _ ⟨_, _, _, _, _, _, _, _, _, _, _, _, _, _, _, _, _, _, _, _, _, _, _, _, _, _, _, _, _, rfl, rfl, hk0, f0, f1, f2, f3, f4, f5, f6, f7, f8, f9, f10, (fun _ => rfl), f12, f13, (fun _ => ⟨x0, y0, z0, x1, y1, z1, x2, y2, z2, x3, y3, z3, rfl⟩), d9, d10, d13, f14⟩
      | 12, ho, hli, hd =>
        obtain rfl := Option.some.inj ho
        obtain rfl : b12 = false := hli
        have hb := bel_alloc w' (.cells #[.int .i64 0, .slice none 0 0, .slice none 0 0, .slice none 0 0, .slice none 0 0] 27)
        have hk := Kept.of_below hb []
        go_simp
        exact hK _ _ ⟨_, _, _, _, _, _, _, _, _, _, _, _, _, _, _, _, _, _, _, _, _, _, _, _, _, _, _, _, _, rfl, rfl, (hk0.trans hk), f0, f1, f2, f3, (fun e e2 => (f4 e e2).go hk), f5, f6, f7, (fun e e2 => (f8 e e2).go hk), (fun e e2 => (f9 e e2).go hk), (fun e e2 => (f10 e e2).go hk), f11, (fun _ _ => ⟨_, _, rfl, hk0.size, rfl, blk_new rfl _ _⟩), (fun e => by have := (f13 e).1; cases this), f9s, d9, d10, d13, f14⟩
      | 13, ho, hli, hd =>
        obtain rfl := Option.some.inj ho
        obtain rfl : b13 = false := hli
        obtain rfl : b10 = true := hd ⟨10, .data⟩ (by simp) rfl
        obtain rfl : b12 = true := hd ⟨12, .data⟩ (by simp) rfl
        obtain ⟨x0, y0, z0, x1, y1, z1, x2, y2, z2, x3, y3, z3, rfl, hpe⟩ := (f10 rfl rfl).now
        obtain ⟨g, cs, rfl, g1, rfl, g3⟩ := f12 rfl rfl
        have hk : Kept [] X3 (w'.setRow g #[.int .i64 (p.n + q.n), .slice x0 y0 z0, .slice x1 y1 z1, .slice x2 y2 z2, .slice x3 y3 z3]) := hk0.row (.inr g1) _
        have ht : Kept [g] w' (w'.setRow g #[.int .i64 (p.n + q.n), .slice x0 y0 z0, .slice x1 y1 z1, .slice x2 y2 z2, .slice x3 y3 z3]) := (Kept.refl _ _).row (.inl (by simp)) _
        have hpe3 : St [g] (w'.setRow g #[.int .i64 (p.n + q.n), .slice x0 y0 z0, .slice x1 y1 z1, .slice x2 y2 z2, .slice x3 y3 z3]) (fun V => ProgIn V EP x0 y0 z0 x1 y1 z1 x2 y2 z2 x3 y3 z3) := fun V hV => prog_zr g3 (ht.trans hV) hpe HNZ.out HESH.out.1 HESH.out.2
        refine step_row rfl _ _ _ rfl g #[.int .i64 (p.n + q.n), .slice x0 y0 z0, .slice x1 y1 z1, .slice x2 y2 z2, .slice x3 y3 z3] rfl rfl 27 ZR g3 info_prog (by rfl) (by simp [Value.oneCell']) ?_
        exact hK _ _ ⟨_, _, _, _, _, _, _, _, _, _, _, _, _, _, _, _, _, _, _, _, _, _, _, _, _, _, _, _, _, rfl, rfl, hk, f0, f1, f2, f3, (fun _ e => by cases e), f5, f6, f7, (fun _ e => by cases e), (fun _ e => by cases e), (fun _ e => by cases e), f11, (fun _ e => by cases e), (fun _ => ⟨rfl, g, x0, y0, z0, x1, y1, z1, x2, y2, z2, x3, y3, z3, rfl, g1, g3.row _, hpe3⟩), f9s, d9, d10, (fun _ => rfl), f14⟩
      | 14, ho, hli, hd =>
        obtain rfl := Option.some.inj ho
        obtain rfl : b14 = false := hli
        obtain rfl : b11 = true := hd ⟨11, .data⟩ (by simp) rfl
        obtain rfl := f11 rfl
        go_simp
        exact hK _ _ ⟨_, _, _, _, _, _, _, _, _, _, _, _, _, _, _, _, _, _, _, _, _, _, _, _, _, _, _, _, _, rfl, rfl, hk0, f0, f1, f2, f3, f4, f5, f6, f7, f8, f9, f10, f11, f12, f13, f9s, d9, d10, d13, (fun _ => rfl)⟩
      | i + 15, ho, hli, hd => simp at ho
    rintro listed a' w' ⟨b0, b1, b2, b3, b4, b5, b6, b7, b8, b9, b10, b11, b12, b13, b14, u9, u10, u93, u94, u95, u96, u97, u98, u99, u100, u101, u102, u103, u104, rfl, rfl, hk0, f0, f1, f2, f3, f4, f5, f6, f7, f8, f9, f10, f11, f12, f13, f9s, d9, d10, d13, f14⟩ hr
    obtain rfl : b0 = true := ready_nil hr (i := 0) rfl (by first | (simp; done) | (simp; intro q; exact absurd q (by decide)))
    obtain rfl : b1 = true := ready_nil hr (i := 1) rfl (by first | (simp; done) | (simp; intro q; exact absurd q (by decide)))
    obtain rfl : b2 = true := ready_nil hr (i := 2) rfl (by first | (simp; done) | (simp; intro q; exact absurd q (by decide)))
    obtain rfl : b3 = true := ready_nil hr (i := 3) rfl (by first | (simp; done) | (simp; intro q; exact absurd q (by decide)))
    obtain rfl : b4 = true := ready_nil hr (i := 4) rfl (by first | (simp; done) | (simp; intro q; exact absurd q (by decide)))
    obtain rfl : b5 = true := ready_nil hr (i := 5) rfl (by first | (simp; done) | (simp; intro q; exact absurd q (by decide)))
    obtain rfl : b6 = true := ready_nil hr (i := 6) rfl (by first | (simp; done) | (simp; intro q; exact absurd q (by decide)))
    obtain rfl : b7 = true := ready_nil hr (i := 7) rfl (by first | (simp; done) | (simp; intro q; exact absurd q (by decide)))
    obtain rfl : b8 = true := ready_nil hr (i := 8) rfl (by first | (simp; done) | (simp; intro q; exact absurd q (by decide)))
    obtain rfl : b9 = true := ready_nil hr (i := 9) rfl (by first | (simp; done) | (simp; intro q; exact absurd q (by decide)))
    obtain rfl : b10 = true := ready_nil hr (i := 10) rfl (by first | (simp; done) | (simp; intro q; exact absurd q (by decide)))
    obtain rfl : b11 = true := ready_nil hr (i := 11) rfl (by first | (simp; done) | (simp; intro q; exact absurd q (by decide)))
    obtain rfl : b12 = true := ready_nil hr (i := 12) rfl (by first | (simp; done) | (simp; intro q; exact absurd q (by decide)))
    obtain rfl : b13 = true := ready_nil hr (i := 13) rfl (by first | (simp; done) | (simp; intro q; exact absurd q (by decide)))
    obtain rfl : b14 = true := ready_nil hr (i := 14) rfl (by first | (simp; done) | (simp; intro q; exact absurd q (by decide)))
    clear hr
    obtain ⟨-, g, x0, y0, z0, x1, y1, z1, x2, y2, z2, x3, y3, z3, rfl, hg1, hbg, hpe⟩ := f13 rfl
    obtain rfl := f14 rfl
    clear f0 f1 f2 f3 f4 f5 f6 f7 f8 f9 f10 f11 f12 f13 f9s d9 d10 d13
    obtain ⟨X6, rfl⟩ : ∃ X6 : World, X6 = w' := ⟨_, rfl⟩
    have hbw6 := Kept.below HBW3.out hk0 HBW3.out.size (by simp)
    have hx6 := hk0.blk HX3.out (by simp)
    have hy6 := hk0.blk HY3.out (by simp)
    have hl0 := LvS.start (W := X6) (lv := X6.heap.size) rfl
    have ha := bel_alloc X6 (.cells #[.int .i64 0, .slice none 0 0, .slice none 0 0] 38)
    have hbw7 := bel_trans hbw6 ha
    have hx7 := hx6.bel ha
    have hy7 := hy6.bel ha
    have hg7 := hbg.bel ha
    have hst : ∀ V, Below X6.heap.size X6 V → St [g] V (fun V => ProgIn V EP x0 y0 z0 x1 y1 z1 x2 y2 z2 x3 y3 z3) := fun V hV => hpe.bel hV
    have hgl := hbg.lt
    have hyl := hy6.lt
    have hs67 : X6.heap.size < (X6.alloc (.cells #[.int .i64 0, .slice none 0 0, .slice none 0 0] 38)).heap.size := by simp
    have hm1 : ml ≤ 1 := by have := HML.out; omega
    have hm2 : m2l ≤ 1 := by have := HM2.out; omega
    have hmn := min_len HPI.out hp0 (by omega) (by have := HML.out; omega)
    have hmq := min_len HQI.out hq0 (by omega) (by have := HM2.out; omega)
    clear hbg hpe hk0 HX3 HY3 HBW3 HMR_ HPRE HNZ HESH HWS HWV HRO HMS HMV0
    have HL0 := Lib.hid hl0; clear hl0
    have HA := Lib.hid ha; clear ha
    have HBW6 := Lib.hid hbw6; clear hbw6
    have HX6 := Lib.hid hx6; clear hx6
    have HY6 := Lib.hid hy6; clear hy6
    have HBW7 := Lib.hid hbw7; clear hbw7
    have HX7 := Lib.hid hx7; clear hx7
    have HY7 := Lib.hid hy7; clear hy7
    have HG7 := Lib.hid hg7; clear hg7
    have HST := Lib.hid hst; clear hst
    have HMN := Lib.hid hmn; clear hmn
    have HMQ := Lib.hid hmq; clear hmq
    obtain ⟨p0, p1, p2, p3, p4, p5⟩ := pcells HX7.out
    go_wp2_with fail
    generalize X6.alloc (.cells #[.int .i64 0, .slice none 0 0, .slice none 0 0] 38) = X7 at *
    generalize X6.heap.size = lv at *
    clear p0 p1 p2 p3 p4 p5
    go_loopw [110] (fun t wr => ∃ (iL : Nat) (v1 v2 : Value), iL ≤ ml ∧ t = .int .i64 (iL : Int) ∧ LvS (lv + 1) lv wr v1 v2 ((p.min.take iL).flatMap (·.lits)) ((p.min.take iL).flatMap (·.w)) ∧ Below lv X7 wr) (fun t _ => ml - (intOf t).toNat)
    case atStart => exact ⟨0, _, _, Nat.zero_le _, rfl, HL0.out, Below.refl _ _⟩
    case round =>
      obtain ⟨iL, v1, v2, hi, rfl, hls, hbs⟩ := hrel
      obtain ⟨wo, rfl⟩ : ∃ wo : World, wo = wr := ⟨_, rfl⟩
      have hnl := HMN.out.1 iL
      obtain ⟨A1, l1, c1, A2, l2, c2, rfl, rfl, hl1, hl2⟩ := hls.slices (by omega) (by omega)
      by_cases hlt : iL < ml
      · obtain ⟨m, hmi, -⟩ := HP.out.min.drop hlt
        have hml := HMN.out.2 m (List.mem_of_getElem? hmi)
        have hbws := bel_lo HBW7.out hbs (by omega)
        obtain ⟨bb, off, bA, bl, bc, wA, wl, wc, rfl, hbl2, q0, q1, q2, g1, g2, g3⟩ := HP.out.min.min hmi
        have d0 := (hbws.cell (World.block_lt_of_cell? _ _ q0)).trans q0
        have d1 := (hbws.cell (World.block_lt_of_cell? _ _ q1)).trans q1
        have d2 := (hbws.cell (World.block_lt_of_cell? _ _ q2)).trans q2
        clear q0 q1 q2
        have k0 : (0 : Int) ≤ (iL : Int) := by omega
        have k1 : (iL : Int) < (ml : Int) := by omega
        have hbc := g2.cap
        have hbm := g2.max
        have hwc := g3.cap
        have hwm := g3.max
        have hbn := g2.len
        have hwn := g3.len
        have ho1 := intl_off g2 hls.r1 (by omega)
        have ho2 := intl_off g3 hls.r2 (by omega)
        obtain ⟨X4, hX4⟩ : ∃ X4, X4 = wo.alloc (.cells #[.int .i64 m.level, .slice bA bl bc, .slice wA wl wc] 38) := ⟨_, rfl⟩
        obtain ⟨bx, hbx⟩ : ∃ bx, bx = wo.heap.size := ⟨_, rfl⟩
        have hbo : Below wo.heap.size wo X4 := by rw [hX4]; exact bel_alloc _ _
        have hbx5 : Blk X4 bx 38 #[.int .i64 m.level, .slice bA bl bc, .slice wA wl wc] := by rw [hX4, hbx]; exact blk_new rfl _ _
        have hls4 := hls.bel hbo
        have hlvo := hls.blk.lt
        have hne : bx ≠ lv := by rw [hbx]; omega
        have hbx4 := bel_lo hbws hbo (by omega)
        have hbs4 := bel_lo hbs hbo (by omega)
        have hown := hls4.own
        clear hls hbs hbws hl1 hl2 hlvo
        have HMI := Lib.hid hmi; clear hmi
        have HML := Lib.hid hml; clear hml
        have G1 := Lib.hid g1; clear g1
        have G2 := Lib.hid g2; clear g2
        have G3 := Lib.hid g3; clear g3
        have HBO := Lib.hid hbo; clear hbo
        have HBX5 := Lib.hid hbx5; clear hbx5
        have HLS4 := Lib.hid hls4; clear hls4
        have HNE := Lib.hid hne; clear hne
        have HBX4 := Lib.hid hbx4; clear hbx4
        have HBS4 := Lib.hid hbs4; clear hbs4
        have HOWN := Lib.hid hown; clear hown
        have HO1 := Lib.hid ho1; clear ho1
        have HO2 := Lib.hid ho2; clear ho2
        have HNL := Lib.hid hnl; clear hnl
        have HBN := Lib.hid hbn; clear hbn
        have HWN := Lib.hid hwn; clear hwn
        go_wp2_with fail
        rw [← hX4, ← hbx]
        clear hX4 hbx d0 d1 d2
        refine wp_region_inv (fun listed a' w' => ∃ (b0 b1 b2 b3 b4 b5 b6 b7 b8 b9 b10 b11 b12 b13 : Bool) (u114 u115 u116 u117 u118 u119 u120 u121 u122 u123 u124 u125 : Value), listed = #[b0, b1, b2, b3, b4, b5, b6, b7, b8, b9, b10, b11, b12, b13] ∧ a' = { tmps := #[.agg #[.int .i64 p.n, .slice nA nl nc, .slice sA sl sc, .slice rA rl rc, .slice (some ⟨bb, off, none⟩) ml mc], .agg #[.int .i64 q.n, .slice n2A n2l n2c, .slice s2A s2l s2c, .slice r2A r2l r2c, .slice m2A m2l m2c], .pointer (some ⟨w.heap.size, 0, none⟩), .pointer (some ⟨w.heap.size + 1, 0, none⟩), .bool false, Value.func (Fn.func 7) #[] #[.pointer (some ⟨w.heap.size, 0, none⟩)], .slice mvA r2l mvc, undef, u8, .pointer (some ⟨g, 0, none⟩), .int .i64 0, .pointer (some ⟨lv, 0, none⟩), undef, .pointer (some ⟨bx, 0, none⟩), undef, undef, undef, undef, undef, undef, undef, undef, undef, undef, undef, undef, undef, undef, undef, undef, undef, undef, undef, undef, undef, undef, undef, undef, undef, .agg #[.int .i64 p.n, .slice nA nl nc, .slice sA sl sc, .slice rA rl rc, .slice (some ⟨bb, off, none⟩) ml mc], .bool true, .bool false, .bool false, .agg #[.int .i64 q.n, .slice n2A n2l n2c, .slice s2A s2l s2c, .slice r2A r2l r2c, .slice m2A m2l m2c], .bool true, .bool false, .bool false, .bool false, .pointer (some ⟨w.heap.size, 0, none⟩), .int .i64 p.n, .bool (decide (4 < p.n)), .bool (decide (4 < p.n)), .bool (decide (4 < p.n)), .pointer (some ⟨w.heap.size + 1, 0, none⟩), .int .i64 q.n, .bool (decide (4 < q.n)), .bool (decide (4 < p.n) || decide (4 < q.n)), .bool (decide (4 < p.n) || decide (4 < q.n)), .pointer (some ⟨w.heap.size, 4, none⟩), .slice (some ⟨bb, off, none⟩) ml mc, .int .i64 (ml : Int), .bool (decide (1 < (ml : Int))), .bool (decide (4 < p.n) || decide (4 < q.n) || decide (1 < (ml : Int))), .bool (decide (4 < p.n) || decide (4 < q.n) || decide (1 < (ml : Int))), .pointer (some ⟨w.heap.size + 1, 4, none⟩), .slice m2A m2l m2c, .int .i64 (m2l : Int), .bool (decide (1 < (m2l : Int))), .bool (decide (4 < p.n) || decide (4 < q.n) || decide (1 < (ml : Int)) || decide (1 < (m2l : Int))), undef, Value.func (Fn.func 7) #[] #[.pointer (some ⟨w.heap.size, 0, none⟩)], .pointer (some ⟨w.heap.size + 1, 3, none⟩), .slice r2A r2l r2c, .int .i64 (r2l : Int), .int .i64 (r2l : Int), .bool false, u76, u77, u78, u79, u80, u81, u82, u83, u84, u85, u86, u87, u88, u89, u90, u91, u92, u93, u94, u95, u96, u97, u98, u99, u100, u101, u102, u103, u104, .int .i64 0, .bool false, .pointer (some ⟨w.heap.size, 4, none⟩), .slice (some ⟨bb, off, none⟩) ml mc, .int .i64 (ml : Int), .int .i64 (iL : Int), .bool true, .pointer (some ⟨bb, off + iL * 3, none⟩), .agg #[.int .i64 m.level, .slice bA bl bc, .slice wA wl wc], u114, u115, u116, u117, u118, u119, u120, u121, u122, u123, u124, u125, u126, undef, undef, undef, undef, undef, undef, undef, undef, undef, undef, undef, undef, undef, undef, undef, undef, undef, undef, undef, undef, undef, undef, undef, undef, undef, undef, undef, undef, undef, undef, undef, undef, undef, undef, undef, undef, undef, undef, undef, undef, undef, undef, undef, undef, undef, undef, undef, undef, undef, undef, undef, undef, undef, undef, undef, undef, undef, undef, undef, undef, undef, undef, undef, undef, undef, undef, undef, undef, undef, undef, undef, undef, undef, undef, undef, undef, undef, undef, undef, undef, undef, undef, undef, undef, undef, undef, undef, undef, undef, undef, undef, undef, undef, undef, undef, undef, undef, undef, undef, undef, undef, undef, undef, undef, undef, undef, undef, undef, undef, undef, undef, undef, undef, undef, undef, undef, undef, undef, undef, undef, undef, undef, undef, undef, undef, undef, undef, undef, undef, undef, undef, undef, undef, undef, undef, undef, undef, undef, undef, undef, undef, undef, undef, undef, undef, undef, undef, undef], defers := [] } ∧ (Kept (lv :: (ownL (.slice A1 l1 c1) ++ ownL (.slice A2 l2 c2))) X4 w') ∧ (LvR (lv + 1) lv bx #[.int .i64 m.level, .slice bA bl bc, .slice wA wl wc] w' (.slice A1 l1 c1) (.slice A2 l2 c2) u118 u123 ((p.min.take iL).flatMap (fun m => m.lits)) ((p.min.take iL).flatMap (fun m => m.w)) ((p.min.take iL).flatMap (fun m => m.lits) ++ m.lits) ((p.min.take iL).flatMap (fun m => m.w) ++ m.w) b4 b9 b11 b13) ∧ (b0 = true → u114 = .pointer (some ⟨lv, 1, none⟩)) ∧ (b1 = true → u115 = .slice A1 l1 c1) ∧ (b2 = true → u116 = .pointer (some ⟨bx, 1, none⟩)) ∧ (b3 = true → u117 = .slice bA bl bc) ∧ (b5 = true → u119 = .pointer (some ⟨lv, 2, none⟩)) ∧ (b6 = true → u120 = .slice A2 l2 c2) ∧ (b7 = true → u121 = .pointer (some ⟨bx, 2, none⟩)) ∧ (b8 = true → u122 = .slice wA wl wc) ∧ (b10 = true → u124 = .pointer (some ⟨lv, 1, none⟩)) ∧ (b12 = true → u125 = .pointer (some ⟨lv, 2, none⟩)) ∧ (b4 = true → b1 = true) ∧ (b9 = true → b6 = true)) (by kernel_rfl) ?start ?step ?_
        case start => exact ⟨false, false, false, false, false, false, false, false, false, false, false, false, false, false, _, _, _, _, _, _, _, _, _, _, _, _, rfl, rfl, (Kept.refl _ _).drew, (HLS4.out.turn HBX5.out HNE.out _ _ _ _).bel ((Below.refl _ _).drew), (by simp), (by simp), (by simp), (by simp), (by simp), (by simp), (by simp), (by simp), (by simp), (by simp), (by simp), (by simp)⟩
        case step =>
          rintro listed a' w' i o ⟨b0, b1, b2, b3, b4, b5, b6, b7, b8, b9, b10, b11, b12, b13, u114, u115, u116, u117, u118, u119, u120, u121, u122, u123, u124, u125, rfl, rfl, hk0, hL, f0, f1, f2, f3, f5, f6, f7, f8, f10, f12, d4, d9⟩ ho hli hd K hK
          match i, ho, hli, hd with
          | 0, ho, hli, hd =>
            obtain rfl := Option.some.inj ho
            obtain rfl : b0 = false := hli
            go_simp
            exact hK _ _ ⟨_, _, _, _, _, _, _, _, _, _, _, _, _, _, _, _, _, _, _, _, _, _, _, _, _, _, rfl, rfl, hk0, hL, (fun _ => rfl), f1, f2, f3, f5, f6, f7, f8, f10, f12, d4, d9⟩
          | 1, ho, hli, hd =>
            obtain rfl := Option.some.inj ho
            obtain rfl : b1 = false := hli
            obtain rfl : b0 = true := hd ⟨0, .data⟩ (by simp) rfl
            obtain rfl := f0 rfl
            have e1 : b4 = false := by
              cases hh : b4 with
              | false => rfl
              | true => have := (d4 hh); cases this
            subst e1
            have e2 : b11 = false := by
              cases hh : b11 with
              | false => rfl
              | true => have := hL.d1 hh; cases this
            subst e2
            have hm : w'.cell? ⟨lv, 1, none⟩ = some (.slice A1 l1 c1) := hL.m1
            go_simp
            exact hK _ _ ⟨_, _, _, _, _, _, _, _, _, _, _, _, _, _, _, _, _, _, _, _, _, _, _, _, _, _, rfl, rfl, hk0, hL, f0, (fun _ => rfl), f2, f3, f5, f6, f7, f8, f10, f12, (fun e => by cases e), d9⟩
          | 2, ho, hli, hd =>
            obtain rfl := Option.some.inj ho
            obtain rfl : b2 = false := hli
            go_simp
            exact hK _ _ ⟨_, _, _, _, _, _, _, _, _, _, _, _, _, _, _, _, _, _, _, _, _, _, _, _, _, _, rfl, rfl, hk0, hL, f0, f1, (fun _ => rfl), f3, f5, f6, f7, f8, f10, f12, d4, d9⟩
          | 3, ho, hli, hd =>
            obtain rfl := Option.some.inj ho
            obtain rfl : b3 = false := hli
            obtain rfl : b2 = true := hd ⟨2, .data⟩ (by simp) rfl
            obtain rfl := f2 rfl
            have hm : w'.cell? ⟨bx, 1, none⟩ = some (.slice bA bl bc) := hL.box.cell 1
            go_simp
            exact hK _ _ ⟨_, _, _, _, _, _, _, _, _, _, _, _, _, _, _, _, _, _, _, _, _, _, _, _, _, _, rfl, rfl, hk0, hL, f0, f1, f2, (fun _ => rfl), f5, f6, f7, f8, f10, f12, d4, d9⟩
          | 4, ho, hli, hd =>
            obtain rfl := Option.some.inj ho
            obtain rfl : b4 = false := hli
            obtain rfl : b1 = true := hd ⟨1, .data⟩ (by simp) rfl
            obtain rfl : b3 = true := hd ⟨3, .data⟩ (by simp) rfl
            obtain rfl := f1 rfl
            obtain rfl := f3 rfl
            have hbv := Kept.below HBX4.out hk0 (by have := HBX4.out.size; omega) (fun k hk => by have := (HOWN.out k hk).1; omega)
            obtain ⟨u, W', hrun, hL2, hk⟩ := hL.app1 (G2.out.ext hbv) HO1.out (by have := HNL.out; have := HBN.out; have := HML.out.1; omega) rfl 23
            refine step_appV (by rfl) _ _ 23 (by rfl) (by rfl) (by rfl) hrun ?_
            exact hK _ _ ⟨_, _, _, _, _, _, _, _, _, _, _, _, _, _, _, _, _, _, _, _, _, _, _, _, _, _, rfl, rfl, (hk0.trans hk), hL2, f0, f1, f2, f3, f5, f6, f7, f8, f10, f12, (fun _ => rfl), d9⟩
          | 5, ho, hli, hd =>
            obtain rfl := Option.some.inj ho
            obtain rfl : b5 = false := hli
            go_simp
            exact hK _ _ ⟨_, _, _, _, _, _, _, _, _, _, _, _, _, _, _, _, _, _, _, _, _, _, _, _, _, _, rfl, rfl, hk0, hL, f0, f1, f2, f3, (fun _ => rfl), f6, f7, f8, f10, f12, d4, d9⟩
          | 6, ho, hli, hd =>
            obtain rfl := Option.some.inj ho
            obtain rfl : b6 = false := hli
            obtain rfl : b5 = true := hd ⟨5, .data⟩ (by simp) rfl
            obtain rfl := f5 rfl
            have e1 : b9 = false := by
              cases hh : b9 with
              | false => rfl
              | true => have := (d9 hh); cases this
            subst e1
            have e2 : b13 = false := by
              cases hh : b13 with
              | false => rfl
              | true => have := hL.d2 hh; cases this
            subst e2
            have hm : w'.cell? ⟨lv, 2, none⟩ = some (.slice A2 l2 c2) := hL.m2
            go_simp
            exact hK _ _ ⟨_, _, _, _, _, _, _, _, _, _, _, _, _, _, _, _, _, _, _, _, _, _, _, _, _, _, rfl, rfl, hk0, hL, f0, f1, f2, f3, f5, (fun _ => rfl), f7, f8, f10, f12, d4, (fun e => by cases e)⟩
          | 7, ho, hli, hd =>
            obtain rfl := Option.some.inj ho
            obtain rfl : b7 = false := hli
            go_simp
            exact hK _ _ ⟨_, _, _, _, _, _, _, _, _, _, _, _, _, _, _, _, _, _, _, _, _, _, _, _, _, _, rfl, rfl, hk0, hL, f0, f1, f2, f3, f5, f6, (fun _ => rfl), f8, f10, f12, d4, d9⟩
          | 8, ho, hli, hd =>
            obtain rfl := Option.some.inj ho
            obtain rfl : b8 = false := hli
            obtain rfl : b7 = true := hd ⟨7, .data⟩ (by simp) rfl
            obtain rfl := f7 rfl
            have hm : w'.cell? ⟨bx, 2, none⟩ = some (.slice wA wl wc) := hL.box.cell 2
            go_simp
            exact hK _ _ ⟨_, _, _, _, _, _, _, _, _, _, _, _, _, _, _, _, _, _, _, _, _, _, _, _, _, _, rfl, rfl, hk0, hL, f0, f1, f2, f3, f5, f6, f7, (fun _ => rfl), f10, f12, d4, d9⟩
          | 9, ho, hli, hd =>
            obtain rfl := Option.some.inj ho
            obtain rfl : b9 = false := hli
            obtain rfl : b6 = true := hd ⟨6, .data⟩ (by simp) rfl
            obtain rfl : b8 = true := hd ⟨8, .data⟩ (by simp) rfl
            obtain rfl := f6 rfl
            obtain rfl := f8 rfl
            have hbv := Kept.below HBX4.out hk0 (by have := HBX4.out.size; omega) (fun k hk => by have := (HOWN.out k hk).1; omega)
            obtain ⟨u, W', hrun, hL2, hk⟩ := hL.app2 (G3.out.ext hbv) HO2.out (by have := HNL.out; have := HWN.out; have := HML.out.2.1; omega) rfl 23
            refine step_appV (by rfl) _ _ 23 (by rfl) (by rfl) (by rfl) hrun ?_
            exact hK _ _ ⟨_, _, _, _, _, _, _, _, _, _, _, _, _, _, _, _, _, _, _, _, _, _, _, _, _, _, rfl, rfl, (hk0.trans hk), hL2, f0, f1, f2, f3, f5, f6, f7, f8, f10, f12, d4, (fun _ => rfl)⟩
          | 10, ho, hli, hd =>
            obtain rfl := Option.some.inj ho
            obtain rfl : b10 = false := hli
            go_simp
            exact hK _ _ ⟨_, _, _, _, _, _, _, _, _, _, _, _, _, _, _, _, _, _, _, _, _, _, _, _, _, _, rfl, rfl, hk0, hL, f0, f1, f2, f3, f5, f6, f7, f8, (fun _ => rfl), f12, d4, d9⟩
          | 11, ho, hli, hd =>
            obtain rfl := Option.some.inj ho
            obtain rfl : b11 = false := hli
            obtain rfl : b4 = true := hd ⟨4, .data⟩ (by simp) rfl
            obtain rfl : b10 = true := hd ⟨10, .data⟩ (by simp) rfl
            obtain rfl := f10 rfl
            obtain ⟨A, l', c, rfl⟩ := RowO.shape (show RowO intR 3 [] (lv + 1) w' u118 ((p.min.take iL).flatMap (fun m => m.lits) ++ m.lits) from hL.r1) (by rw [List.length_append]; have := HNL.out; have := HBN.out; have := HML.out.1; omega)
            have hm := hL.m1
            have hz := hL.blk.frozen 1
            obtain ⟨hL2, hk⟩ := hL.set1
            have HDD := Lib.hid d4
            have HDE := Lib.hid d9
            clear d4 d9
            go_simp
            exact hK _ _ ⟨_, _, _, _, _, _, _, _, _, _, _, _, _, _, _, _, _, _, _, _, _, _, _, _, _, _, rfl, rfl, (hk0.trans hk), hL2, f0, f1, f2, f3, f5, f6, f7, f8, f10, f12, HDD.out, HDE.out⟩
          | 12, ho, hli, hd =>
            obtain rfl := Option.some.inj ho
            obtain rfl : b12 = false := hli
            go_simp
            exact hK _ _ ⟨_, _, _, _, _, _, _, _, _, _, _, _, _, _, _, _, _, _, _, _, _, _, _, _, _, _, rfl, rfl, hk0, hL, f0, f1, f2, f3, f5, f6, f7, f8, f10, (fun _ => rfl), d4, d9⟩
          | 13, ho, hli, hd =>
            obtain rfl := Option.some.inj ho
            obtain rfl : b13 = false := hli
            obtain rfl : b9 = true := hd ⟨9, .data⟩ (by simp) rfl
            obtain rfl : b12 = true := hd ⟨12, .data⟩ (by simp) rfl
            obtain rfl := f12 rfl
            obtain ⟨A, l', c, rfl⟩ := RowO.shape (show RowO intR 3 [] (lv + 1) w' u123 ((p.min.take iL).flatMap (fun m => m.w) ++ m.w) from hL.r2) (by rw [List.length_append]; have := HNL.out; have := HWN.out; have := HML.out.2.1; omega)
            have hm := hL.m2
            have hz := hL.blk.frozen 2
            obtain ⟨hL2, hk⟩ := hL.set2
            have HDD := Lib.hid d4
            have HDE := Lib.hid d9
            clear d4 d9
            go_simp
            exact hK _ _ ⟨_, _, _, _, _, _, _, _, _, _, _, _, _, _, _, _, _, _, _, _, _, _, _, _, _, _, rfl, rfl, (hk0.trans hk), hL2, f0, f1, f2, f3, f5, f6, f7, f8, f10, f12, HDD.out, HDE.out⟩
          | i + 14, ho, hli, hd => simp at ho
        rintro listed a' w' ⟨b0, b1, b2, b3, b4, b5, b6, b7, b8, b9, b10, b11, b12, b13, u114, u115, u116, u117, u118, u119, u120, u121, u122, u123, u124, u125, rfl, rfl, hk0, hL, f0, f1, f2, f3, f5, f6, f7, f8, f10, f12, d4, d9⟩ hr
        obtain rfl : b0 = true := ready_nil hr (i := 0) rfl (by first | (simp; done) | (simp; intro q; exact absurd q (by decide)))
        obtain rfl : b1 = true := ready_nil hr (i := 1) rfl (by first | (simp; done) | (simp; intro q; exact absurd q (by decide)))
        obtain rfl : b2 = true := ready_nil hr (i := 2) rfl (by first | (simp; done) | (simp; intro q; exact absurd q (by decide)))
        obtain rfl : b3 = true := ready_nil hr (i := 3) rfl (by first | (simp; done) | (simp; intro q; exact absurd q (by decide)))
        obtain rfl : b4 = true := ready_nil hr (i := 4) rfl (by first | (simp; done) | (simp; intro q; exact absurd q (by decide)))
        obtain rfl : b5 = true := ready_nil hr (i := 5) rfl (by first | (simp; done) | (simp; intro q; exact absurd q (by decide)))
        obtain rfl : b6 = true := ready_nil hr (i := 6) rfl (by first | (simp; done) | (simp; intro q; exact absurd q (by decide)))
        obtain rfl : b7 = true := ready_nil hr (i := 7) rfl (by first | (simp; done) | (simp; intro q; exact absurd q (by decide)))
        obtain rfl : b8 = true := ready_nil hr (i := 8) rfl (by first | (simp; done) | (simp; intro q; exact absurd q (by decide)))
        obtain rfl : b9 = true := ready_nil hr (i := 9) rfl (by first | (simp; done) | (simp; intro q; exact absurd q (by decide)))
        obtain rfl : b10 = true := ready_nil hr (i := 10) rfl (by first | (simp; done) | (simp; intro q; exact absurd q (by decide)))
        obtain rfl : b11 = true := ready_nil hr (i := 11) rfl (by first | (simp; done) | (simp; intro q; exact absurd q (by decide)))
        obtain rfl : b12 = true := ready_nil hr (i := 12) rfl (by first | (simp; done) | (simp; intro q; exact absurd q (by decide)))
        obtain rfl : b13 = true := ready_nil hr (i := 13) rfl (by first | (simp; done) | (simp; intro q; exact absurd q (by decide)))
        clear hr
        have hls := hL.done
        clear hL f0 f1 f2 f3 f5 f6 f7 f8 f10 f12 d4 d9
        obtain ⟨X5, rfl⟩ : ∃ X5 : World, X5 = w' := ⟨_, rfl⟩
        have hbs5 := Kept.below HBS4.out hk0 (by have := HLS4.out.blk.lt; omega) (fun k hk => (HOWN.out k hk).1)
        have e1 := flat_take (f := fun m : GMin => m.lits) HMI.out
        have e2 := flat_take (f := fun m : GMin => m.w) HMI.out
        rw [← e1, ← e2] at hls
        clear e1 e2 hk0
        have HLS := Lib.hid hls; clear hls
        have HBS5 := Lib.hid hbs5; clear hbs5
        go_wp2_with fail
        go_roundw
        case rel => exact ⟨iL + 1, _, _, by omega, by go_num, HLS.out, HBS5.out⟩
        case measure => simp [intOf]; omega
      obtain rfl : ml = iL := by omega
      rw [List.take_of_length_le (show p.min.length ≤ ml by have := HML.out; omega)] at hls hl1 hl2
      obtain ⟨X8, rfl⟩ : ∃ X8 : World, X8 = wo := ⟨_, rfl⟩
      have hbw8 := bel_lo HBW7.out hbs (by omega)
      have hy8 := HY7.out.lo hbs (by omega)
      have hx8 := HX7.out.lo hbs (by omega)
      have hg8 := HG7.out.lo hbs hgl
      have hb68 := HA.out.trans hbs
      have hs8 : lv < X8.heap.size := hls.blk.lt
      clear HX7 HY7 HG7 HBW7 HL0 HA HBW6 HX6 HY6 hbs hl1 hl2
      have HLS := Lib.hid hls; clear hls
      have HBW8 := Lib.hid hbw8; clear hbw8
      have HX8 := Lib.hid hx8; clear hx8
      have HY8 := Lib.hid hy8; clear hy8
      have HG8 := Lib.hid hg8; clear hg8
      have HB68 := Lib.hid hb68; clear hb68
      obtain ⟨y0, y1, y2, y3, y4, y5⟩ := pcells HY8.out
      go_wp2_with fail
      clear y0 y1 y2 y3 y4 y5
      go_loopw [130] (fun t wr => ∃ (iL : Nat) (v1 v2 : Value), iL ≤ m2l ∧ t = .int .i64 (iL : Int) ∧ LvS (lv + 1) lv wr v1 v2 (p.min.flatMap (·.lits) ++ (q.min.take iL).flatMap (fun m => m.lits.map (shF p.n))) (p.min.flatMap (·.w) ++ (q.min.take iL).flatMap (·.w)) ∧ Below lv X8 wr) (fun t _ => m2l - (intOf t).toNat)
      case atStart =>
        refine ⟨0, .slice A1 l1 c1, .slice A2 l2 c2, Nat.zero_le _, rfl, ?_, Below.refl _ _⟩
        simp only [List.take_zero, List.flatMap_nil, List.append_nil]
        exact HLS.out
      case round =>
        obtain ⟨iL, v1, v2, hi, rfl, hls, hbs⟩ := hrel
        obtain ⟨wo, rfl⟩ : ∃ wo : World, wo = wr := ⟨_, rfl⟩
        have hnl := HMQ.out.1 iL
        have hnp := HMN.out.1 p.min.length
        rw [List.take_length] at hnp
        have hnl1 : (p.min.flatMap (·.lits) ++ (q.min.take iL).flatMap (fun m => m.lits.map (shF p.n))).length ≤ 16000 := by rw [flat_map, List.length_append, List.length_map]; omega
        have hnl2 : (p.min.flatMap (·.w) ++ (q.min.take iL).flatMap (·.w)).length ≤ 16000 := by rw [List.length_append]; omega
        obtain ⟨B1, n1, e1, B2, n2, e2, rfl, rfl, hl1, hl2⟩ := hls.slices (by omega) (by omega)
        clear hnl hnp
        by_cases hlt : iL < m2l
        · obtain ⟨m, hmi, -⟩ := HQ.out.min.drop hlt
          have hml := HMQ.out.2 m (List.mem_of_getElem? hmi)
          have hbws := bel_lo HBW8.out hbs (by omega)
          obtain ⟨bb, off, bA, bl, bc, wA, wl, wc, rfl, hbl2, q0, q1, q2, g1, g2, g3⟩ := HQ.out.min.min hmi
          have d0 := (hbws.cell (World.block_lt_of_cell? _ _ q0)).trans q0
          have d1 := (hbws.cell (World.block_lt_of_cell? _ _ q1)).trans q1
          have d2 := (hbws.cell (World.block_lt_of_cell? _ _ q2)).trans q2
          clear q0 q1 q2
          have k0 : (0 : Int) ≤ (iL : Int) := by omega
          have k1 : (iL : Int) < (m2l : Int) := by omega
          have hbc := g2.cap
          have hbm := g2.max
          have hwc := g3.cap
          have hwm := g3.max
          have hbn := g2.len
          have hwn := g3.len
          have ho2 := intl_off g3 hls.r2 (by omega)
          obtain ⟨X4, hX4⟩ : ∃ X4, X4 = wo.alloc (.cells #[.int .i64 m.level, .slice bA bl bc, .slice wA wl wc] 38) := ⟨_, rfl⟩
          obtain ⟨bx, hbx⟩ : ∃ bx, bx = wo.heap.size := ⟨_, rfl⟩
          have hbo : Below wo.heap.size wo X4 := by rw [hX4]; exact bel_alloc _ _
          have hbx5 : Blk X4 bx 38 #[.int .i64 m.level, .slice bA bl bc, .slice wA wl wc] := by rw [hX4, hbx]; exact blk_new rfl _ _
          have hls4 := hls.bel hbo
          have hlvo := hls.blk.lt
          have hne : bx ≠ lv := by rw [hbx]; omega
          have hbx4 := bel_lo hbws hbo (by omega)
          have hbs4 := bel_lo hbs hbo (by omega)
          have hq4 : X4.cell? ⟨w.heap.size, 0, none⟩ = some (.int .i64 p.n) := ((HX8.out.lo hbs (by omega)).bel hbo).cell 0
          have hown := hls4.own
          clear hls hbs hbws hl1 hl2 hlvo
          have HMI := Lib.hid hmi; clear hmi
          have HML := Lib.hid hml; clear hml
          have G1 := Lib.hid g1; clear g1
          have G2 := Lib.hid g2; clear g2
          have G3 := Lib.hid g3; clear g3
          have HBO := Lib.hid hbo; clear hbo
          have HBX5 := Lib.hid hbx5; clear hbx5
          have HLS4 := Lib.hid hls4; clear hls4
          have HNE := Lib.hid hne; clear hne
          have HBX4 := Lib.hid hbx4; clear hbx4
          have HBS4 := Lib.hid hbs4; clear hbs4
          have HOWN := Lib.hid hown; clear hown
          have HO2 := Lib.hid ho2; clear ho2
          have HNL1 := Lib.hid hnl1; clear hnl1
          have HNL2 := Lib.hid hnl2; clear hnl2
          have HBN := Lib.hid hbn; clear hbn
          have HWN := Lib.hid hwn; clear hwn
          have HQ4 := Lib.hid hq4; clear hq4
          go_wp2_with fail
          rw [← hX4, ← hbx]
          clear hX4 hbx d0 d1 d2
          refine wp_region_inv (fun listed a' w' => ∃ (b0 b1 b2 b3 b4 b5 b6 b7 b8 b9 b10 b11 b12 b13 b14 b15 : Bool) (u134 u135 u136 u137 u138 u139 u140 u141 u142 u143 u144 u145 u146 u147 : Value), listed = #[b0, b1, b2, b3, b4, b5, b6, b7, b8, b9, b10, b11, b12, b13, b14, b15] ∧ a' = { tmps := #[.agg #[.int .i64 p.n, .slice nA nl nc, .slice sA sl sc, .slice rA rl rc, .slice mA ml mc], .agg #[.int .i64 q.n, .slice n2A n2l n2c, .slice s2A s2l s2c, .slice r2A r2l r2c, .slice (some ⟨bb, off, none⟩) m2l m2c], .pointer (some ⟨w.heap.size, 0, none⟩), .pointer (some ⟨w.heap.size + 1, 0, none⟩), .bool false, Value.func (Fn.func 7) #[] #[.pointer (some ⟨w.heap.size, 0, none⟩)], .slice mvA r2l mvc, undef, u8, .pointer (some ⟨g, 0, none⟩), .int .i64 0, .pointer (some ⟨lv, 0, none⟩), undef, u13, undef, .pointer (some ⟨bx, 0, none⟩), undef, undef, undef, undef, undef, undef, undef, undef, undef, undef, undef, undef, undef, undef, undef, undef, undef, undef, undef, undef, undef, undef, undef, .agg #[.int .i64 p.n, .slice nA nl nc, .slice sA sl sc, .slice rA rl rc, .slice mA ml mc], .bool true, .bool false, .bool false, .agg #[.int .i64 q.n, .slice n2A n2l n2c, .slice s2A s2l s2c, .slice r2A r2l r2c, .slice (some ⟨bb, off, none⟩) m2l m2c], .bool true, .bool false, .bool false, .bool false, .pointer (some ⟨w.heap.size, 0, none⟩), .int .i64 p.n, .bool (decide (4 < p.n)), .bool (decide (4 < p.n)), .bool (decide (4 < p.n)), .pointer (some ⟨w.heap.size + 1, 0, none⟩), .int .i64 q.n, .bool (decide (4 < q.n)), .bool (decide (4 < p.n) || decide (4 < q.n)), .bool (decide (4 < p.n) || decide (4 < q.n)), .pointer (some ⟨w.heap.size, 4, none⟩), .slice mA ml mc, .int .i64 (ml : Int), .bool (decide (1 < (ml : Int))), .bool (decide (4 < p.n) || decide (4 < q.n) || decide (1 < (ml : Int))), .bool (decide (4 < p.n) || decide (4 < q.n) || decide (1 < (ml : Int))), .pointer (some ⟨w.heap.size + 1, 4, none⟩), .slice (some ⟨bb, off, none⟩) m2l m2c, .int .i64 (m2l : Int), .bool (decide (1 < (m2l : Int))), .bool (decide (4 < p.n) || decide (4 < q.n) || decide (1 < (ml : Int)) || decide (1 < (m2l : Int))), undef, Value.func (Fn.func 7) #[] #[.pointer (some ⟨w.heap.size, 0, none⟩)], .pointer (some ⟨w.heap.size + 1, 3, none⟩), .slice r2A r2l r2c, .int .i64 (r2l : Int), .int .i64 (r2l : Int), .bool false, u76, u77, u78, u79, u80, u81, u82, u83, u84, u85, u86, u87, u88, u89, u90, u91, u92, u93, u94, u95, u96, u97, u98, u99, u100, u101, u102, u103, u104, .int .i64 0, .bool false, .pointer (some ⟨w.heap.size, 4, none⟩), .slice mA ml mc, .int .i64 (ml : Int), .int .i64 (ml : Int), .bool false, u112, u113, u114, u115, u116, u117, u118, u119, u120, u121, u122, u123, u124, u125, u126, .pointer (some ⟨w.heap.size + 1, 4, none⟩), .slice (some ⟨bb, off, none⟩) m2l m2c, .int .i64 (m2l : Int), .int .i64 (iL : Int), .bool true, .pointer (some ⟨bb, off + iL * 3, none⟩), .agg #[.int .i64 m.level, .slice bA bl bc, .slice wA wl wc], u134, u135, u136, u137, u138, u139, u140, u141, u142, u143, u144, u145, u146, u147, u148, undef, undef, undef, undef, undef, undef, undef, undef, undef, undef, undef, undef, undef, undef, undef, undef, undef, undef, undef, undef, undef, undef, undef, undef, undef, undef, undef, undef, undef, undef, undef, undef, undef, undef, undef, undef, undef, undef, undef, undef, undef, undef, undef, undef, undef, undef, undef, undef, undef, undef, undef, undef, undef, undef, undef, undef, undef, undef, undef, undef, undef, undef, undef, undef, undef, undef, undef, undef, undef, undef, undef, undef, undef, undef, undef, undef, undef, undef, undef, undef, undef, undef, undef, undef, undef, undef, undef, undef, undef, undef, undef, undef, undef, undef, undef, undef, undef, undef, undef, undef, undef, undef, undef, undef, undef, undef, undef, undef, undef, undef, undef, undef, undef, undef, undef, undef, undef, undef, undef, undef, undef, undef, undef, undef, undef, undef], defers := [] } ∧ (Kept (lv :: (ownL (.slice B1 n1 e1) ++ ownL (.slice B2 n2 e2))) X4 w') ∧ (LvR (lv + 1) lv bx #[.int .i64 m.level, .slice bA bl bc, .slice wA wl wc] w' (.slice B1 n1 e1) (.slice B2 n2 e2) u140 u145 (p.min.flatMap (fun m => m.lits) ++ (q.min.take iL).flatMap (fun m => m.lits.map (shF p.n))) (p.min.flatMap (fun m => m.w) ++ (q.min.take iL).flatMap (fun m => m.w)) (p.min.flatMap (fun m => m.lits) ++ (q.min.take iL).flatMap (fun m => m.lits.map (shF p.n)) ++ m.lits.map (shF p.n)) (p.min.flatMap (fun m => m.w) ++ (q.min.take iL).flatMap (fun m => m.w) ++ m.w) b6 b11 b13 b15) ∧ (b0 = true → u134 = .pointer (some ⟨lv, 1, none⟩)) ∧ (b1 = true → u135 = .slice B1 n1 e1) ∧ (b2 = true → u136 = .func (.func 7) #[] #[.pointer (some ⟨w.heap.size, 0, none⟩)]) ∧ (b3 = true → u137 = .pointer (some ⟨bx, 1, none⟩)) ∧ (b4 = true → u138 = .slice bA bl bc) ∧ (b5 = true → ∃ A c, u139 = .slice A bl c ∧ StabS intR (lv :: (ownL (.slice B1 n1 e1) ++ ownL (.slice B2 n2 e2))) w' A bl c (m.lits.map (shF p.n)) ∧ Off (lv :: (ownL (.slice B1 n1 e1) ++ ownL (.slice B2 n2 e2))) A bl) ∧ (b7 = true → u141 = .pointer (some ⟨lv, 2, none⟩)) ∧ (b8 = true → u142 = .slice B2 n2 e2) ∧ (b9 = true → u143 = .pointer (some ⟨bx, 2, none⟩)) ∧ (b10 = true → u144 = .slice wA wl wc) ∧ (b12 = true → u146 = .pointer (some ⟨lv, 1, none⟩)) ∧ (b14 = true → u147 = .pointer (some ⟨lv, 2, none⟩)) ∧ (b6 = true → b1 = true ∧ b5 = true) ∧ (b11 = true → b8 = true)) (by kernel_rfl) ?start ?step ?_
          case start => exact ⟨false, false, false, false, false, false, false, false, false, false, false, false, false, false, false, false, _, _, _, _, _, _, _, _, _, _, _, _, _, _, rfl, rfl, (Kept.refl _ _).drew, (HLS4.out.turn HBX5.out HNE.out _ _ _ _).bel ((Below.refl _ _).drew), (by simp), (by simp), (by simp), (by simp), (by simp), (by simp), (by simp), (by simp), (by simp), (by simp), (by simp), (by simp), (by simp), (by simp)⟩
          case step =>
            rintro listed a' w' i o ⟨b0, b1, b2, b3, b4, b5, b6, b7, b8, b9, b10, b11, b12, b13, b14, b15, u134, u135, u136, u137, u138, u139, u140, u141, u142, u143, u144, u145, u146, u147, rfl, rfl, hk0, hL, f0, f1, f2, f3, f4, f5, f7, f8, f9, f10, f12, f14, d6, d11⟩ ho hli hd K hK
            match i, ho, hli, hd with
            | 0, ho, hli, hd =>
              obtain rfl := Option.some.inj ho
              obtain rfl : b0 = false := hli
              go_simp
              exact hK _ _ ⟨_, _, _, _, _, _, _, _, _, _, _, _, _, _, _, _, _, _, _, _, _, _, _, _, _, _, _, _, _, _, rfl, rfl, hk0, hL, (fun _ => rfl), f1, f2, f3, f4, f5, f7, f8, f9, f10, f12, f14, d6, d11⟩
            | 1, ho, hli, hd =>
              obtain rfl := Option.some.inj ho
              obtain rfl : b1 = false := hli
              obtain rfl : b0 = true := hd ⟨0, .data⟩ (by simp) rfl
              obtain rfl := f0 rfl
              have e1 : b6 = false := by
                cases hh : b6 with
                | false => rfl
                | true => have := (d6 hh).1; cases this
              subst e1
              have e2 : b13 = false := by
                cases hh : b13 with
                | false => rfl
                | true => have := hL.d1 hh; cases this
              subst e2
              have hm : w'.cell? ⟨lv, 1, none⟩ = some (.slice B1 n1 e1) := hL.m1
              go_simp
              exact hK _ _ ⟨_, _, _, _, _, _, _, _, _, _, _, _, _, _, _, _, _, _, _, _, _, _, _, _, _, _, _, _, _, _, rfl, rfl, hk0, hL, f0, (fun _ => rfl), f2, f3, f4, f5, f7, f8, f9, f10, f12, f14, (fun e => by cases e), d11⟩
            | 2, ho, hli, hd =>
              obtain rfl := Option.some.inj ho
              obtain rfl : b2 = false := hli
              go_simp
              exact hK _ _ ⟨_, _, _, _, _, _, _, _, _, _, _, _, _, _, _, _, _, _, _, _, _, _, _, _, _, _, _, _, _, _, rfl, rfl, hk0, hL, f0, f1, (fun _ => rfl), f3, f4, f5, f7, f8, f9, f10, f12, f14, d6, d11⟩
            | 3, ho, hli, hd =>
              obtain rfl := Option.some.inj ho
              obtain rfl : b3 = false := hli
              go_simp
              exact hK _ _ ⟨_, _, _, _, _, _, _, _, _, _, _, _, _, _, _, _, _, _, _, _, _, _, _, _, _, _, _, _, _, _, rfl, rfl, hk0, hL, f0, f1, f2, (fun _ => rfl), f4, f5, f7, f8, f9, f10, f12, f14, d6, d11⟩
            | 4, ho, hli, hd =>
              obtain rfl := Option.some.inj ho
              obtain rfl : b4 = false := hli
              obtain rfl : b3 = true := hd ⟨3, .data⟩ (by simp) rfl
              obtain rfl := f3 rfl
              have hm : w'.cell? ⟨bx, 1, none⟩ = some (.slice bA bl bc) := hL.box.cell 1
              go_simp
              exact hK _ _ ⟨_, _, _, _, _, _, _, _, _, _, _, _, _, _, _, _, _, _, _, _, _, _, _, _, _, _, _, _, _, _, rfl, rfl, hk0, hL, f0, f1, f2, f3, (fun _ => rfl), f5, f7, f8, f9, f10, f12, f14, d6, d11⟩
            | 5, ho, hli, hd =>
              obtain rfl := Option.some.inj ho
              obtain rfl : b5 = false := hli
              obtain rfl : b2 = true := hd ⟨2, .data⟩ (by simp) rfl
              obtain rfl : b4 = true := hd ⟨4, .data⟩ (by simp) rfl
              obtain rfl := f2 rfl
              obtain rfl := f4 rfl
              have hbv := Kept.below HBX4.out hk0 (by have := HBX4.out.size; omega) (fun k hk => by have := (HOWN.out k hk).1; omega)
              have hltv := hk0.size
              go_simp
              refine (shf_any w.heap.size p.n q.n bA bl bc m.lits w' (hk0.cell HQ4.out (fun hk => by have := (HOWN.out _ hk).1; simp only at this; omega)) hp0 (by omega) (by omega) (G2.out.ext hbv) HML.out.2.2).mono ?_
              rintro e v ⟨A, l', c, rfl, hso, rfl, hfo, hb⟩
              have hk := Kept.of_below hb (lv :: (ownL (.slice B1 n1 e1) ++ ownL (.slice B2 n2 e2)))
              have hoo : Off (lv :: (ownL (.slice B1 n1 e1) ++ ownL (.slice B2 n2 e2))) A l' := hfo.off (fun k hk => by have := (HOWN.out k hk).2; omega)
              exact hK _ _ ⟨_, _, _, _, _, _, _, _, _, _, _, _, _, _, _, _, _, _, _, _, _, _, _, _, _, _, _, _, _, _, rfl, rfl, (hk0.trans hk), (hL.bel hb), f0, f1, f2, f3, f4, (fun _ => ⟨A, c, rfl, StabS.ints hso hoo, hoo⟩), f7, f8, f9, f10, f12, f14, (fun e => ⟨(d6 e).1, rfl⟩), d11⟩
            | 6, ho, hli, hd =>
              obtain rfl := Option.some.inj ho
              obtain rfl : b6 = false := hli
              obtain rfl : b1 = true := hd ⟨1, .data⟩ (by simp) rfl
              obtain rfl : b5 = true := hd ⟨5, .data⟩ (by simp) rfl
              obtain rfl := f1 rfl
              obtain ⟨A, c, rfl, hst, hoo⟩ := f5 rfl
              obtain ⟨u, W', hrun, hL2, hk⟩ := hL.app1 hst.now (fun h0 ad e hm => hoo h0 ad e (List.mem_cons_of_mem _ (List.mem_append.2 (.inl hm)))) (by have := HNL1.out; have := HBN.out; have := HML.out.1; omega) rfl 23
              refine step_appV (by rfl) _ _ 23 (by rfl) (by rfl) (by rfl) hrun ?_
              exact hK _ _ ⟨_, _, _, _, _, _, _, _, _, _, _, _, _, _, _, _, _, _, _, _, _, _, _, _, _, _, _, _, _, _, rfl, rfl, (hk0.trans hk), hL2, f0, f1, f2, f3, f4, (fun _ => ⟨A, c, rfl, hst.go hk (fun k hk => .inl hk), hoo⟩), f7, f8, f9, f10, f12, f14, (fun _ => ⟨rfl, rfl⟩), d11⟩
            | 7, ho, hli, hd =>
              obtain rfl := Option.some.inj ho
              obtain rfl : b7 = false := hli
              go_simp
              exact hK _ _ ⟨_, _, _, _, _, _, _, _, _, _, _, _, _, _, _, _, _, _, _, _, _, _, _, _, _, _, _, _, _, _, rfl, rfl, hk0, hL, f0, f1, f2, f3, f4, f5, (fun _ => rfl), f8, f9, f10, f12, f14, d6, d11⟩
            | 8, ho, hli, hd =>
              obtain rfl := Option.some.inj ho
              obtain rfl : b8 = false := hli
              obtain rfl : b7 = true := hd ⟨7, .data⟩ (by simp) rfl
              obtain rfl := f7 rfl
              have e1 : b11 = false := by
                cases hh : b11 with
                | false => rfl
                | true => have := (d11 hh); cases this
              subst e1
              have e2 : b15 = false := by
                cases hh : b15 with
                | false => rfl
                | true => have := hL.d2 hh; cases this
              subst e2
              have hm : w'.cell? ⟨lv, 2, none⟩ = some (.slice B2 n2 e2) := hL.m2
              go_simp
              exact hK _ _ ⟨_, _, _, _, _, _, _, _, _, _, _, _, _, _, _, _, _, _, _, _, _, _, _, _, _, _, _, _, _, _, rfl, rfl, hk0, hL, f0, f1, f2, f3, f4, f5, f7, (fun _ => rfl), f9, f10, f12, f14, d6, (fun e => by cases e)⟩
            | 9, ho, hli, hd =>
              obtain rfl := Option.some.inj ho
              obtain rfl : b9 = false := hli
              go_simp
              exact hK _ _ ⟨_, _, _, _, _, _, _, _, _, _, _, _, _, _, _, _, _, _, _, _, _, _, _, _, _, _, _, _, _, _, rfl, rfl, hk0, hL, f0, f1, f2, f3, f4, f5, f7, f8, (fun _ => rfl), f10, f12, f14, d6, d11⟩
            | 10, ho, hli, hd =>
              obtain rfl := Option.some.inj ho
              obtain rfl : b10 = false := hli
              obtain rfl : b9 = true := hd ⟨9, .data⟩ (by simp) rfl
              obtain rfl := f9 rfl
              have hm : w'.cell? ⟨bx, 2, none⟩ = some (.slice wA wl wc) := hL.box.cell 2
              go_simp
              exact hK _ _ ⟨_, _, _, _, _, _, _, _, _, _, _, _, _, _, _, _, _, _, _, _, _, _, _, _, _, _, _, _, _, _, rfl, rfl, hk0, hL, f0, f1, f2, f3, f4, f5, f7, f8, f9, (fun _ => rfl), f12, f14, d6, d11⟩
            | 11, ho, hli, hd =>
              obtain rfl := Option.some.inj ho
              obtain rfl : b11 = false := hli
              obtain rfl : b8 = true := hd ⟨8, .data⟩ (by simp) rfl
              obtain rfl : b10 = true := hd ⟨10, .data⟩ (by simp) rfl
              obtain rfl := f8 rfl
              obtain rfl := f10 rfl
              have hbv := Kept.below HBX4.out hk0 (by have := HBX4.out.size; omega) (fun k hk => by have := (HOWN.out k hk).1; omega)
              obtain ⟨u, W', hrun, hL2, hk⟩ := hL.app2 (G3.out.ext hbv) HO2.out (by have := HNL2.out; have := HWN.out; have := HML.out.2.1; omega) rfl 23
              refine step_appV (by rfl) _ _ 23 (by rfl) (by rfl) (by rfl) hrun ?_
              exact hK _ _ ⟨_, _, _, _, _, _, _, _, _, _, _, _, _, _, _, _, _, _, _, _, _, _, _, _, _, _, _, _, _, _, rfl, rfl, (hk0.trans hk), hL2, f0, f1, f2, f3, f4, (fun e => by obtain ⟨A, c, e1, h, ho⟩ := f5 e; exact ⟨A, c, e1, h.go hk (fun k hk => .inl hk), ho⟩), f7, f8, f9, f10, f12, f14, d6, (fun _ => rfl)⟩
            | 12, ho, hli, hd =>
              obtain rfl := Option.some.inj ho
              obtain rfl : b12 = false := hli
              go_simp
              exact hK _ _ ⟨_, _, _, _, _, _, _, _, _, _, _, _, _, _, _, _, _, _, _, _, _, _, _, _, _, _, _, _, _, _, rfl, rfl, hk0, hL, f0, f1, f2, f3, f4, f5, f7, f8, f9, f10, (fun _ => rfl), f14, d6, d11⟩
            | 13, ho, hli, hd =>
              obtain rfl := Option.some.inj ho
              obtain rfl : b13 = false := hli
              obtain rfl : b6 = true := hd ⟨6, .data⟩ (by simp) rfl
              obtain rfl : b12 = true := hd ⟨12, .data⟩ (by simp) rfl
              obtain rfl := f12 rfl
              obtain ⟨A, l', c, rfl⟩ := RowO.shape (show RowO intR 3 [] (lv + 1) w' u140 (p.min.flatMap (fun m => m.lits) ++ (q.min.take iL).flatMap (fun m => m.lits.map (shF p.n)) ++ m.lits.map (shF p.n)) from hL.r1) (by rw [List.length_append, List.length_map]; have := HNL1.out; have := HBN.out; have := HML.out.1; omega)
              have hm := hL.m1
              have hz := hL.blk.frozen 1
              obtain ⟨hL2, hk⟩ := hL.set1
              have HDD := Lib.hid d6
              have HDE := Lib.hid d11
              clear d6 d11
              go_simp
              exact hK _ _ ⟨_, _, _, _, _, _, _, _, _, _, _, _, _, _, _, _, _, _, _, _, _, _, _, _, _, _, _, _, _, _, rfl, rfl, (hk0.trans hk), hL2, f0, f1, f2, f3, f4, (fun e => by obtain ⟨A, c, e1, h, ho⟩ := f5 e; exact ⟨A, c, e1, h.go hk (fun k hk => .inl hk), ho⟩), f7, f8, f9, f10, f12, f14, HDD.out, HDE.out⟩
            | 14, ho, hli, hd =>
              obtain rfl := Option.some.inj ho
              obtain rfl : b14 = false := hli
              go_simp
              exact hK _ _ ⟨_, _, _, _, _, _, _, _, _, _, _, _, _, _, _, _, _, _, _, _, _, _, _, _, _, _, _, _, _, _, rfl, rfl, hk0, hL, f0, f1, f2, f3, f4, f5, f7, f8, f9, f10, f12, (fun _ => rfl), d6, d11⟩
            | 15, ho, hli, hd =>
              obtain rfl := Option.some.inj ho
              obtain rfl : b15 = false := hli
              obtain rfl : b11 = true := hd ⟨11, .data⟩ (by simp) rfl
              obtain rfl : b14 = true := hd ⟨14, .data⟩ (by simp) rfl
              obtain rfl := f14 rfl
              obtain ⟨A, l', c, rfl⟩ := RowO.shape (show RowO intR 3 [] (lv + 1) w' u145 (p.min.flatMap (fun m => m.w) ++ (q.min.take iL).flatMap (fun m => m.w) ++ m.w) from hL.r2) (by rw [List.length_append]; have := HNL2.out; have := HWN.out; have := HML.out.2.1; omega)
              have hm := hL.m2
              have hz := hL.blk.frozen 2
              obtain ⟨hL2, hk⟩ := hL.set2
              have HDD := Lib.hid d6
              have HDE := Lib.hid d11
              clear d6 d11
              go_simp
              exact hK _ _ ⟨_, _, _, _, _, _, _, _, _, _, _, _, _, _, _, _, _, _, _, _, _, _, _, _, _, _, _, _, _, _, rfl, rfl, (hk0.trans hk), hL2, f0, f1, f2, f3, f4, (fun e => by obtain ⟨A, c, e1, h, ho⟩ := f5 e; exact ⟨A, c, e1, h.go hk (fun k hk => .inl hk), ho⟩), f7, f8, f9, f10, f12, f14, HDD.out, HDE.out⟩
            | i + 16, ho, hli, hd => simp at ho
          rintro listed a' w' ⟨b0, b1, b2, b3, b4, b5, b6, b7, b8, b9, b10, b11, b12, b13, b14, b15, u134, u135, u136, u137, u138, u139, u140, u141, u142, u143, u144, u145, u146, u147, rfl, rfl, hk0, hL, f0, f1, f2, f3, f4, f5, f7, f8, f9, f10, f12, f14, d6, d11⟩ hr
          obtain rfl : b0 = true := ready_nil hr (i := 0) rfl (by first | (simp; done) | (simp; intro q; exact absurd q (by decide)))
          obtain rfl : b1 = true := ready_nil hr (i := 1) rfl (by first | (simp; done) | (simp; intro q; exact absurd q (by decide)))
          obtain rfl : b2 = true := ready_nil hr (i := 2) rfl (by first | (simp; done) | (simp; intro q; exact absurd q (by decide)))
          obtain rfl : b3 = true := ready_nil hr (i := 3) rfl (by first | (simp; done) | (simp; intro q; exact absurd q (by decide)))
          obtain rfl : b4 = true := ready_nil hr (i := 4) rfl (by first | (simp; done) | (simp; intro q; exact absurd q (by decide)))
          obtain rfl : b5 = true := ready_nil hr (i := 5) rfl (by first | (simp; done) | (simp; intro q; exact absurd q (by decide)))
          obtain rfl : b6 = true := ready_nil hr (i := 6) rfl (by first | (simp; done) | (simp; intro q; exact absurd q (by decide)))
          obtain rfl : b7 = true := ready_nil hr (i := 7) rfl (by first | (simp; done) | (simp; intro q; exact absurd q (by decide)))
          obtain rfl : b8 = true := ready_nil hr (i := 8) rfl (by first | (simp; done) | (simp; intro q; exact absurd q (by decide)))
          obtain rfl : b9 = true := ready_nil hr (i := 9) rfl (by first | (simp; done) | (simp; intro q; exact absurd q (by decide)))
          obtain rfl : b10 = true := ready_nil hr (i := 10) rfl (by first | (simp; done) | (simp; intro q; exact absurd q (by decide)))
          obtain rfl : b11 = true := ready_nil hr (i := 11) rfl (by first | (simp; done) | (simp; intro q; exact absurd q (by decide)))
          obtain rfl : b12 = true := ready_nil hr (i := 12) rfl (by first | (simp; done) | (simp; intro q; exact absurd q (by decide)))
          obtain rfl : b13 = true := ready_nil hr (i := 13) rfl (by first | (simp; done) | (simp; intro q; exact absurd q (by decide)))
          obtain rfl : b14 = true := ready_nil hr (i := 14) rfl (by first | (simp; done) | (simp; intro q; exact absurd q (by decide)))
          obtain rfl : b15 = true := ready_nil hr (i := 15) rfl (by first | (simp; done) | (simp; intro q; exact absurd q (by decide)))
          clear hr
          have hls := hL.done
          clear hL f0 f1 f2 f3 f4 f5 f7 f8 f9 f10 f12 f14 d6 d11
          obtain ⟨X5, rfl⟩ : ∃ X5 : World, X5 = w' := ⟨_, rfl⟩
          have hbs5 := Kept.below HBS4.out hk0 (by have := HLS4.out.blk.lt; omega) (fun k hk => (HOWN.out k hk).1)
          have e1 := flat_take (f := fun m : GMin => m.lits.map (shF p.n)) HMI.out
          have e2 := flat_take (f := fun m : GMin => m.w) HMI.out
          rw [List.append_assoc, List.append_assoc, ← e1, ← e2] at hls
          clear e1 e2 hk0
          have HLS := Lib.hid hls; clear hls
          have HBS5 := Lib.hid hbs5; clear hbs5
          go_wp2_with fail
          go_roundw
          case rel => exact ⟨iL + 1, _, _, by omega, by go_num, HLS.out, HBS5.out⟩
          case measure => simp [intOf]; omega
        obtain rfl : m2l = iL := by omega
        rw [List.take_of_length_le (show q.min.length ≤ m2l by have := HM2.out; omega)] at hls hl1 hl2 hnl2
        change LvS (lv + 1) lv wo _ _ (lvlL p q) (lvlW p q) at hls
        change SlIs intR wo B1 n1 e1 (lvlL p q) at hl1
        change SlIs intR wo B2 n2 e2 (lvlW p q) at hl2
        obtain ⟨X9, rfl⟩ : ∃ X9 : World, X9 = wo := ⟨_, rfl⟩
        have hbw9 := bel_lo HBW8.out hbs (by omega)
        have hx9 := HX8.out.lo hbs (by omega)
        have hy9 := HY8.out.lo hbs (by omega)
        have hg9 := HG8.out.lo hbs hgl
        have hb69 := HB68.out.trans hbs
        have hs9 : lv < X9.heap.size := hls.blk.lt
        clear HX8 HY8 HG8 HBW8 HB68 HLS hbs hnl1 hnl2
        have hwt := spl_law HPI.out HQI.out (by have := HML.out; omega) (by have := HM2.out; omega)
        have m2 : X9.cell? ⟨lv, 2, none⟩ = some (.slice B2 n2 e2) := hls.blk.cell 2
        have h2c := hl2.cap
        have h2m := hl2.max
        have h2l := hl2.len
        have HLS := Lib.hid hls; clear hls
        have HL1 := Lib.hid hl1; clear hl1
        have HL2 := Lib.hid hl2; clear hl2
        have HBW9 := Lib.hid hbw9; clear hbw9
        have HX9 := Lib.hid hx9; clear hx9
        have HY9 := Lib.hid hy9; clear hy9
        have HG9 := Lib.hid hg9; clear hg9
        have HB69 := Lib.hid hb69; clear hb69
        have HWT := Lib.hid hwt; clear hwt
        have H2L := Lib.hid h2l; clear h2l
        go_wp2_with fail
        clear m2
        go_loopw [16, 152] (fun s t wr => ∃ (i : Nat), i ≤ n2 ∧ s = .int .i64 ((lvlW p q).take i).sum ∧ t = .int .i64 (i : Int) ∧ X9 = wr) (fun _ t _ => n2 - (intOf t).toNat)
        case atStart => exact ⟨0, Nat.zero_le _, (by simp), rfl, rfl⟩
        case round =>
          obtain ⟨i, hi, rfl, rfl, hw⟩ := hrel
          subst hw
          obtain ⟨si, hsi⟩ : ∃ si, si = ((lvlW p q).take i).sum := ⟨_, rfl⟩
          rw [← hsi]
          have hw0 := HWT.out i
          rw [← hsi] at hw0
          by_cases hlt : i < n2
          · obtain ⟨y, hyi, -⟩ := HL2.out.drop hlt
            obtain ⟨yb, yo, rfl, ly, cy, y64⟩ := HL2.out.int hyi
            have hw1 := HWT.out (i + 1)
            have htk : ((lvlW p q).take (i + 1)).sum = si + y := by rw [List.take_add_one, hyi, List.sum_append, hsi]; simp
            rw [htk] at hw1
            have e1 : IntKind.i64.wrap (si + y) = si + y := IntWalk.i64_in _ (by omega)
            have k0 : (0 : Int) ≤ (i : Int) := by omega
            have k1 : (i : Int) < (n2 : Int) := by omega
            have HYI := Lib.hid hyi; clear hyi
            have HTK := Lib.hid htk; clear htk
            have HSI := Lib.hid hsi; clear hsi
            go_wp2_with fail
            go_roundw
            case rel => exact ⟨i + 1, by omega, by rw [HTK.out], by go_num, by first | rfl | trivial⟩
            case measure => simp [intOf]; omega
          obtain rfl : n2 = i := by omega
          have hsum : si = (lvlW p q).sum := by rw [hsi, List.take_of_length_le (by have := H2L.out; omega)]
          by_cases hw : 1048576 < si
          · have HBW := HBW9
            have HSI := Lib.hid hsi; clear hsi
            have HSUM := Lib.hid hsum; clear hsum
            go_wp2_with fail
            go_fit (CA.out _); rintro e wy ⟨rfl, hb⟩
            have HBZ := Lib.hid (bel_trans HBW.out hb)
            clear hb
            go_wp2_with fail
            go_ret
            exact ⟨rfl, HBZ.out⟩
          have hlvs : (lvlW p q).sum ≤ 1048576 := by omega
          have T := Lib.hid (spl_two HV1.out HV2.out (by omega) (by omega) (by have := HRL.out; omega) (by have := HR2.out; omega) (by have := HML.out; omega) (by have := HM2.out; omega) hlvs)
          have ha := bel_alloc X9 (.cells #[.int .i64 0, .slice B1 n1 e1, .slice B2 n2 e2] 38)
          have g10 := HG9.out.bel ha
          have hk10 : Kept [g] (X9.alloc (.cells #[.int .i64 0, .slice B1 n1 e1, .slice B2 n2 e2] 38)) ((X9.alloc (.cells #[.int .i64 0, .slice B1 n1 e1, .slice B2 n2 e2] 38)).setCell ⟨g, 4, none⟩ (.slice (some ⟨X9.heap.size, 0, none⟩) 1 1)) := (Kept.refl _ _).set (.inl (by simp)) _
          have hk11 : Kept [g] X9 ((X9.alloc (.cells #[.int .i64 0, .slice B1 n1 e1, .slice B2 n2 e2] 38)).setCell ⟨g, 4, none⟩ (.slice (some ⟨X9.heap.size, 0, none⟩) 1 1)) := (Kept.of_below ha [g]).trans hk10
          have hm11 : Blk ((X9.alloc (.cells #[.int .i64 0, .slice B1 n1 e1, .slice B2 n2 e2] 38)).setCell ⟨g, 4, none⟩ (.slice (some ⟨X9.heap.size, 0, none⟩) 1 1)) X9.heap.size 38 #[.int .i64 0, .slice B1 n1 e1, .slice B2 n2 e2] := hk10.blk (blk_new rfl _ _) (by simp; omega)
          have hg11 : Blk ((X9.alloc (.cells #[.int .i64 0, .slice B1 n1 e1, .slice B2 n2 e2] 38)).setCell ⟨g, 4, none⟩ (.slice (some ⟨X9.heap.size, 0, none⟩) 1 1)) g 27 #[.int .i64 (p.n + q.n), .slice x0 y0 z0, .slice x1 y1 z1, .slice x2 y2 z2, (.slice (some ⟨X9.heap.size, 0, none⟩) 1 1)] := g10.set_ 4 _
          have hx11 := hk11.blk HX9.out (by simp; omega)
          have hy11 := hk11.blk HY9.out (by simp; omega)
          have hbw11 := Kept.below HBW9.out hk11 HBW9.out.size (by simp; omega)
          have hpb := both_in (HST.out X9 HB69.out) hk11 HEP.out HMR.out hq0 HLS.out (lvl_len HMN.out.1 HMQ.out.1).1 (lvl_len HMN.out.1 HMQ.out.1).2 HG9.out hm11
          have cA1 := all_any p nA nl nc sA sl sc rA rl rc mA ml mc ((X9.alloc (.cells #[.int .i64 0, .slice B1 n1 e1, .slice B2 n2 e2] 38)).setCell ⟨g, 4, none⟩ (.slice (some ⟨X9.heap.size, 0, none⟩) 1 1)) (HP.out.ext hbw11) HV1.out (small_P HS1.out)
          have m4 : (X9.alloc (.cells #[.int .i64 0, .slice B1 n1 e1, .slice B2 n2 e2] 38)).cell? ⟨g, 4, none⟩ = some (.slice x3 y3 z3) := g10.cell 4
          have hz := g10.frozen 4
          have HSI := Lib.hid hsi; clear hsi
          have HSUM := Lib.hid hsum; clear hsum
          have HLVS := Lib.hid hlvs; clear hlvs
          have HA := Lib.hid ha; clear ha
          have G10 := Lib.hid g10; clear g10
          have HK10 := Lib.hid hk10; clear hk10
          have HK11 := Lib.hid hk11; clear hk11
          have HM11 := Lib.hid hm11; clear hm11
          have HG11 := Lib.hid hg11; clear hg11
          have HX11 := Lib.hid hx11; clear hx11
          have HY11 := Lib.hid hy11; clear hy11
          have HBW11 := Lib.hid hbw11; clear hbw11
          have HPB := Lib.hid hpb; clear hpb
          have CA1 := Lib.hid cA1; clear cA1
          obtain ⟨p0, p1, p2, p3, p4, p5⟩ := pcells HX11.out
          go_wp2_with (refine wpList_load_row (by rfl) 38 _ (by rfl) lv (by rfl) 38 #[.int .i64 0, .slice B1 n1 e1, .slice B2 n2 e2] (0, 0) _ HLS.out.blk Tryz.underlying38 rfl info_min ?_)
          clear m4 hz HK10 G10 HA HM11 HK11
          generalize ((X9.alloc (.cells #[.int .i64 0, .slice B1 n1 e1, .slice B2 n2 e2] 38)).setCell ⟨g, 4, none⟩ (.slice (some ⟨X9.heap.size, 0, none⟩) 1 1)) = X11 at *
          generalize X9.heap.size = mb at *
          have HBW := HBW11
          clear HLS HL1 HL2 HG9 HX9 HY9 HBW9 HBW11 HB69 HST HWT H2L
          go_fit CA1.out; rintro e w12 ⟨aA, al, ac, rfl, hsa, hb⟩
          clear p0 p1 p2 p3 p4 p5
          replace HX11 := Lib.hid (HX11.out.bel hb)
          replace HY11 := Lib.hid (HY11.out.bel hb)
          replace HG11 := Lib.hid (HG11.out.bel hb)
          replace HBW := Lib.hid (bel_trans HBW.out hb)
          replace HPB := Lib.hid (HPB.out.ext hb)
          clear hb
          have cA2 := all_any q n2A n2l n2c s2A s2l s2c r2A r2l r2c m2A m2l m2c w12 (HQ.out.ext HBW.out) HV2.out (small_P HS2.out)
          have HSA := Lib.hid hsa; clear hsa
          have CA2 := Lib.hid cA2; clear cA2
          obtain ⟨y0, y1, y2, y3, y4, y5⟩ := pcells HY11.out
          go_wp2_with fail
          go_fit CA2.out; rintro e w13 ⟨bA, bl, bc, rfl, hsb, hb⟩
          clear y0 y1 y2 y3 y4 y5
          replace HX11 := Lib.hid (HX11.out.bel hb)
          replace HY11 := Lib.hid (HY11.out.bel hb)
          replace HG11 := Lib.hid (HG11.out.bel hb)
          replace HBW := Lib.hid (bel_trans HBW.out hb)
          replace HPB := Lib.hid (HPB.out.ext hb)
          replace HSA := Lib.hid (HSA.out.ext hb)
          clear hb
          have cA3 := all_any (bothP p q) x0 y0 z0 x1 y1 z1 x2 y2 z2 (some ⟨mb, 0, none⟩) 1 1 w13 HPB.out T.out.bv T.out.bs
          change Calls _ _ #[.agg #[.int .i64 (p.n + q.n), .slice x0 y0 z0, .slice x1 y1 z1, .slice x2 y2 z2, (.slice (some ⟨mb, 0, none⟩) 1 1)]] _ _ at cA3
          have HSB := Lib.hid hsb; clear hsb
          have CA3 := Lib.hid cA3; clear cA3
          go_wp2_with (refine wpList_load_row (by rfl) 27 _ (by rfl) g (by rfl) 27 #[.int .i64 (p.n + q.n), .slice x0 y0 z0, .slice x1 y1 z1, .slice x2 y2 z2, (.slice (some ⟨mb, 0, none⟩) 1 1)] (0, 0) _ HG11.out Tryz.underlying27 rfl info_prog ?_)
          go_fit CA3.out; rintro e w14 ⟨cA, cl, cc, rfl, hsc, hb⟩
          replace HX11 := Lib.hid (HX11.out.bel hb)
          replace HY11 := Lib.hid (HY11.out.bel hb)
          replace HG11 := Lib.hid (HG11.out.bel hb)
          replace HBW := Lib.hid (bel_trans HBW.out hb)
          replace HPB := Lib.hid (HPB.out.ext hb)
          replace HSA := Lib.hid (HSA.out.ext hb)
          replace HSB := Lib.hid (HSB.out.ext hb)
          clear hb
          have hal := HSA.out.len
          have hbl := HSB.out.len
          have hcl := hsc.len
          have ha4 := T.out.lp
          have hb4 := T.out.lq
          rw [← hal] at ha4
          rw [← hbl] at hb4
          have hc4 : cl = al * bl := by rw [hcl, hal, hbl]; exact T.out.len
          have hpr : al * bl ≤ 4096 * 4096 := Nat.mul_le_mul ha4 hb4
          have hci : (al : Int) * (bl : Int) = (cl : Int) := by rw [hc4]; exact (Int.natCast_mul al bl).symm
          have e1 : IntKind.i64.wrap ((al : Int) * (bl : Int)) = (cl : Int) := by rw [hci]; exact IntWalk.i64_in _ (by omega)
          have hac := HSA.out.cap
          have ham := HSA.out.max
          have hbc := HSB.out.cap
          have hbm := HSB.out.max
          have hcc := hsc.cap
          have hcm := hsc.max
          have h64 := Lib.hid (show al ≤ 17592186044416 ∧ bl ≤ 17592186044416 from ⟨by omega, by omega⟩)
          have HSC := Lib.hid hsc; clear hsc
          have HAL := Lib.hid hal; clear hal
          have HBL := Lib.hid hbl; clear hbl
          have HCL := Lib.hid hcl; clear hcl
          have HC4 := Lib.hid hc4; clear hc4
          have HPR := Lib.hid hpr; clear hpr
          have HCI := Lib.hid hci; clear hci
          go_wp2_with fail
          clear e1
          go_loopw [199] (fun t wr => ∃ (i : Nat), i ≤ al ∧ t = .int .i64 (i : Int) ∧ Below w14.heap.size w14 wr) (fun t _ => al - (intOf t).toNat)
          case atStart => exact ⟨0, Nat.zero_le _, rfl, Below.refl _ _⟩
          case round =>
            obtain ⟨i, hi, rfl, hbi⟩ := hrel
            obtain ⟨wo, rfl⟩ : ∃ wo : World, wo = wr := ⟨_, rfl⟩
            by_cases hlt : i < al
            · obtain ⟨x, hxi, -⟩ := HSA.out.drop hlt
              obtain ⟨ab, ao, xA, xl, xc, rfl, _, cx, hx⟩ := (HSA.out.ext hbi).set hxi
              have k0 : (0 : Int) ≤ (i : Int) := by omega
              have k1 : (i : Int) < (al : Int) := by omega
              have hxc := hx.cap
              have hxm := hx.max
              have HBI := Lib.hid hbi
              clear hbi
              have HXW := Lib.hid hx
              clear hx
              have HXI := Lib.hid hxi; clear hxi
              go_wp2_with fail
              clear cx
              go_loopw [205] (fun t wr => ∃ (j : Nat), j ≤ bl ∧ t = .int .i64 (j : Int) ∧ Below wo.heap.size wo wr) (fun t _ => bl - (intOf t).toNat)
              case atStart => exact ⟨0, Nat.zero_le _, rfl, Below.refl _ _⟩
              case round =>
                obtain ⟨j, hj, rfl, hbj⟩ := hrel
                obtain ⟨wi, rfl⟩ : ∃ wi : World, wi = wr := ⟨_, rfl⟩
                by_cases hjl : j < bl
                · have hbo := bel_trans HBI.out hbj
                  obtain ⟨y, hyj, -⟩ := HSB.out.drop hjl
                  obtain ⟨yb, yo, yA, yl, yc, rfl, _, cy, hy⟩ := (HSB.out.ext hbo).set hyj
                  have j0 : (0 : Int) ≤ (j : Int) := by omega
                  have j1 : (j : Int) < (bl : Int) := by omega
                  have ONE := Lib.hid (T.out.each x (List.mem_of_getElem? HXI.out) y (List.mem_of_getElem? hyj))
                  have hx := HXW.out.ext hbj
                  have hxl4 : xl ≤ 4 := by have := hx.len; have := ONE.out.lx.1; omega
                  have hyl4 : yl ≤ 4 := by have := hy.len; have := ONE.out.lx.2; omega
                  have hyc := hy.cap
                  have hym := hy.max
                  have hxo := HX11.out.bel hbo
                  have hyo := HY11.out.bel hbo
                  have hgo := HG11.out.bel hbo
                  have hbwo := bel_trans HBW.out hbo
                  have hpbo := HPB.out.ext hbo
                  have hsco := HSC.out.ext hbo
                  -- the set of the union
                  have hae := bel_alloc wi (.cells #[] 3)
                  have oe := own_empty (w := wi) (base := wi.heap.size) rfl (Nat.le_refl _)
                  obtain ⟨v1, w1, hrun1, o1, gr1, at1⟩ := appS oe (hx.ext hae) (by omega) (by simp) 23
                  have hb1 := bel_grown hae gr1 (by simp) (fun k hk => (oe.2.lt k hk).1)
                  rw [List.nil_append, Nat.zero_add] at o1
                  have cS := shf_any w.heap.size p.n q.n yA yl yc y w1 ((hxo.bel hb1).cell 0) hp0 (by omega) (by omega) (hy.ext hb1) ONE.out.ly
                  clear oe gr1 at1 hae
                  have HYJ := Lib.hid hyj; clear hyj
                  have HX := Lib.hid hx; clear hx
                  have HY := Lib.hid hy; clear hy
                  have HXO := Lib.hid hxo; clear hxo
                  have HYO := Lib.hid hyo; clear hyo
                  have HGO := Lib.hid hgo; clear hgo
                  have HBWO := Lib.hid hbwo; clear hbwo
                  have HPBO := Lib.hid hpbo; clear hpbo
                  have HSCO := Lib.hid hsco; clear hsco
                  have HRUN1 := Lib.hid hrun1; clear hrun1
                  have O1 := Lib.hid o1; clear o1
                  have HB1 := Lib.hid hb1; clear hb1
                  have CS := Lib.hid cS; clear cS
                  have HBJ := Lib.hid hbj; clear hbj
                  have HBO := Lib.hid hbo; clear hbo
                  go_wp2_with (at_builtin; refine wpList_append_run rfl _ _ _ rfl _ _ rfl rfl _ _ HRUN1.out ?_)
                  clear cy
                  go_fit CS.out; rintro e w2 ⟨yA', yl', yc', rfl, hsy, rfl, -, hb⟩
                  obtain ⟨v3, w3, hrun3, o3, gr3, at3⟩ := appS (O1.out.bel hb) hsy (by omega) (by have := HB1.out.size; have := hb.size; omega) 23
                  have hb3 := bel_grown (bel_trans HB1.out hb) gr3 (by have := HB1.out.size; have := hb.size; omega) (fun k hk => (O1.out.2.lt k hk).1)
                  have hx3 := HX.out.ext hb3
                  have hy3 := HY.out.ext hb3
                  obtain ⟨mA', mc', rfl, hms⟩ := o3.sl (by omega) (fun z hz => by
                    rcases List.mem_append.1 hz with h | h
                    · exact hx3.all64 z h
                    · exact (show ∀ z ∈ y.map (shF p.n), I64 z from hsy.all64) z h)
                  change SlIs intR w3 mA' (xl + yl') mc' (joinS p x y) at hms
                  obtain ⟨mn, hmn⟩ : ∃ mn, mn = xl + yl' := ⟨_, rfl⟩
                  rw [← hmn] at hms hrun3
                  have hmc := hms.cap
                  have hmm := hms.max
                  clear gr3 at3 o3 hb hsy
                  have hxo3 := HXO.out.bel hb3
                  have hyo3 := HYO.out.bel hb3
                  have hgo3 := HGO.out.bel hb3
                  have hbw3' := bel_trans HBWO.out hb3
                  have hpb3 := HPBO.out.ext hb3
                  have hsc3 := HSCO.out.ext hb3
                  have hbj3 := bel_trans HBJ.out hb3
                  have cC1 := stableCosts_any p nA nl nc sA sl sc rA rl rc mA ml mc xA xl xc x w3 (HP.out.ext hbw3') hx3
                  rw [ONE.out.cx] at cC1
                  have cC2 := fun W (hb : Below w3.heap.size w3 W) => stableCosts_any q n2A n2l n2c s2A s2l s2c r2A r2l r2c m2A m2l m2c yA yl' yc y W (HQ.out.ext (bel_trans hbw3' hb)) (hy3.ext hb)
                  rw [ONE.out.cy] at cC2
                  clear HXO HYO HGO HBWO HPBO HSCO HBJ HBO HX HY CS
                  have HRUN3 := Lib.hid hrun3; clear hrun3
                  have HMS := Lib.hid hms; clear hms
                  have HMN := Lib.hid hmn; clear hmn
                  have CC1 := Lib.hid cC1; clear cC1
                  have CC2 := Lib.hid cC2; clear cC2
                  have HX3 := Lib.hid hx3; clear hx3
                  have HY3 := Lib.hid hy3; clear hy3
                  have HXO3 := Lib.hid hxo3; clear hxo3
                  have HYO3 := Lib.hid hyo3; clear hyo3
                  have HGO3 := Lib.hid hgo3; clear hgo3
                  have HBW3' := Lib.hid hbw3'; clear hbw3'
                  have HPB3 := Lib.hid hpb3; clear hpb3
                  have HSC3 := Lib.hid hsc3; clear hsc3
                  have HBJ3 := Lib.hid hbj3; clear hbj3
                  have HB3 := Lib.hid hb3; clear hb3
                  obtain ⟨p0, p1, p2, p3, p4, p5⟩ := pcells HXO3.out
                  go_wp2_with (at_builtin; refine wpList_append_run rfl _ _ _ rfl _ _ rfl rfl _ _ HRUN3.out ?_)
                  clear HRUN3 HRUN1 O1
                  go_fit CC1.out; rintro e w4 ⟨uA, ul, uc, rfl, hu, hb⟩
                  clear p0 p1 p2 p3 p4 p5
                  have hyo4 := HYO3.out.bel hb
                  have hcb := CC2.out w4 hb
                  replace HGO3 := Lib.hid (HGO3.out.bel hb)
                  replace HPB3 := Lib.hid (HPB3.out.ext hb)
                  replace HSC3 := Lib.hid (HSC3.out.ext hb)
                  replace HBJ3 := Lib.hid (bel_trans HBJ3.out hb)
                  replace HMS := Lib.hid (HMS.out.ext hb)
                  clear hb HXO3 HYO3 CC1 CC2
                  have HU := Lib.hid hu; clear hu
                  have HYO4 := Lib.hid hyo4; clear hyo4
                  have HCB := Lib.hid hcb; clear hcb
                  obtain ⟨y0, y1, y2, y3, y4, y5⟩ := pcells HYO4.out
                  go_wp2_with fail
                  go_fit HCB.out; rintro e w5 ⟨vA, vl, vc, rfl, hv, hb⟩
                  clear y0 y1 y2 y3 y4 y5
                  replace HGO3 := Lib.hid (HGO3.out.bel hb)
                  replace HPB3 := Lib.hid (HPB3.out.ext hb)
                  replace HSC3 := Lib.hid (HSC3.out.ext hb)
                  replace HBJ3 := Lib.hid (bel_trans HBJ3.out hb)
                  replace HMS := Lib.hid (HMS.out.ext hb)
                  replace HU := Lib.hid (HU.out.ext hb)
                  clear hb HYO4 HCB
                  have cC3 := stableCosts_any (bothP p q) x0 y0 z0 x1 y1 z1 x2 y2 z2 (some ⟨mb, 0, none⟩) 1 1 mA' mn mc' (joinS p x y) w5 HPB3.out HMS.out
                  rw [ONE.out.cm, ONE.out.cost] at cC3
                  change Calls _ _ #[.agg #[.int .i64 (p.n + q.n), .slice x0 y0 z0, .slice x1 y1 z1, .slice x2 y2 z2, (.slice (some ⟨mb, 0, none⟩) 1 1)], .slice mA' mn mc'] _ _ at cC3
                  have HV := Lib.hid hv; clear hv
                  have CC3 := Lib.hid cC3; clear cC3
                  go_wp2_with (refine wpList_load_row (by rfl) 27 _ (by rfl) g (by rfl) 27 #[.int .i64 (p.n + q.n), .slice x0 y0 z0, .slice x1 y1 z1, .slice x2 y2 z2, (.slice (some ⟨mb, 0, none⟩) 1 1)] (0, 0) _ HGO3.out Tryz.underlying27 rfl info_prog ?_)
                  go_fit CC3.out; rintro e w6 ⟨kA, kl, kc, rfl, hk, hb⟩
                  replace HSC3 := Lib.hid (HSC3.out.ext hb)
                  replace HBJ3 := Lib.hid (bel_trans HBJ3.out hb)
                  replace HMS := Lib.hid (HMS.out.ext hb)
                  replace HU := Lib.hid (HU.out.ext hb)
                  replace HV := Lib.hid (HV.out.ext hb)
                  clear hb HGO3 HPB3 CC3
                  -- the sum of the costs
                  have hul := HU.out.len
                  have hvl := HV.out.len
                  have hkl := hk.len
                  have hu1 : ul ≤ 1 := by have := ONE.out.ux; omega
                  have hv1_ : vl ≤ 1 := by have := ONE.out.uy; omega
                  have hk1 : kl = 1 := by simpa using hkl
                  subst hk1
                  have huc := HU.out.cap
                  have hum := HU.out.max
                  have hvc := HV.out.cap
                  have hvm := HV.out.max
                  have hkc := hk.cap
                  have hkm := hk.max
                  have hae := bel_alloc w6 (.cells #[] 3)
                  have oe := own_empty (w := w6) (base := w6.heap.size) rfl (Nat.le_refl _)
                  obtain ⟨v7, w7, hrun7, o7, gr7, at7⟩ := appS oe (HU.out.ext hae) (by omega) (by simp) 23
                  have hb7 := bel_grown hae gr7 (by simp) (fun k hk => (oe.2.lt k hk).1)
                  obtain ⟨v8, w8, hrun8, o8, gr8, at8⟩ := appS o7 (HV.out.ext hb7) (by omega) (by have := hb7.size; omega) 23
                  have hb8 := bel_grown hb7 gr8 (by have := hb7.size; omega) (fun k hk => (o7.2.lt k hk).1)
                  obtain ⟨sA_, sc_, rfl, hss⟩ := o8.sl (by omega) (fun z hz => by
                    rw [List.nil_append] at hz
                    rcases List.mem_append.1 hz with h | h
                    · exact HU.out.all64 z h
                    · exact HV.out.all64 z h)
                  rw [List.nil_append] at hss
                  obtain ⟨sn, hsn⟩ : ∃ sn, sn = 0 + ul + vl := ⟨_, rfl⟩
                  rw [← hsn] at hss hrun8
                  have hsc_ := hss.cap
                  have hsm_ := hss.max
                  have hsl := hss.len
                  have hsc8 := HSC3.out.ext hb8
                  have hbj8 := bel_trans HBJ3.out hb8
                  have hms8 := HMS.out.ext hb8
                  have hk8 := hk.ext hb8
                  have hcH := hasM_any cA cl cc mA' mn mc' (allL (bothP p q)) (joinS p x y) w8 hsc8 hms8
                  rw [ONE.out.mem] at hcH
                  clear oe o7 o8 gr7 gr8 at7 at8 hae hb7 hb8 HSC3 HBJ3 HMS hk
                  have HRUN7 := Lib.hid hrun7; clear hrun7
                  have HRUN8 := Lib.hid hrun8; clear hrun8
                  have HSS := Lib.hid hss; clear hss
                  have HSN := Lib.hid hsn; clear hsn
                  have HSL := Lib.hid hsl; clear hsl
                  have HSC8 := Lib.hid hsc8; clear hsc8
                  have HBJ8 := Lib.hid hbj8; clear hbj8
                  have HMS8 := Lib.hid hms8; clear hms8
                  have HK8 := Lib.hid hk8; clear hk8
                  have HCH := Lib.hid hcH; clear hcH
                  have HUL := Lib.hid hul; clear hul
                  have HVL := Lib.hid hvl; clear hvl
                  have HKL := Lib.hid hkl; clear hkl
                  go_wp2_with (at_builtin; first | refine wpList_append_run rfl _ _ _ rfl _ _ rfl rfl _ _ HRUN7.out ?_ | refine wpList_append_run rfl _ _ _ rfl _ _ rfl rfl _ _ HRUN8.out ?_)
                  clear HRUN7 HRUN8 HU HV
                  go_loopw [36, 240] (fun s t wr => ∃ (k : Nat), k ≤ sn ∧ s = .int .i64 ((costsE p x ++ costsE q y).take k).sum ∧ t = .int .i64 (k : Int) ∧ w8 = wr) (fun _ t _ => sn - (intOf t).toNat)
                  case atStart => exact ⟨0, Nat.zero_le _, (by simp), rfl, rfl⟩
                  case round =>
                    obtain ⟨k, hk_, rfl, rfl, hw_⟩ := hrel
                    subst hw_
                    obtain ⟨si, hsi⟩ : ∃ si, si = ((costsE p x ++ costsE q y).take k).sum := ⟨_, rfl⟩
                    rw [← hsi]
                    have hw0 := ONE.out.small k
                    rw [← hsi] at hw0
                    by_cases hlk : k < sn
                    · obtain ⟨z, hzk, -⟩ := HSS.out.drop hlk
                      obtain ⟨zb, zo, rfl, lz, cz, z64⟩ := HSS.out.int hzk
                      have hw1 := ONE.out.small (k + 1)
                      have htk : ((costsE p x ++ costsE q y).take (k + 1)).sum = si + z := by rw [List.take_add_one, hzk, List.sum_append, hsi]; simp
                      rw [htk] at hw1
                      have e1 : IntKind.i64.wrap (si + z) = si + z := IntWalk.i64_in _ (by omega)
                      have m0 : (0 : Int) ≤ (k : Int) := by omega
                      have m1 : (k : Int) < (sn : Int) := by omega
                      have HZK := Lib.hid hzk; clear hzk
                      have HTK := Lib.hid htk; clear htk
                      have HSI := Lib.hid hsi; clear hsi
                      go_wp2_with fail
                      go_roundw
                      case rel => exact ⟨k + 1, by omega, by rw [HTK.out], by go_num, by first | rfl | trivial⟩
                      case measure => simp [intOf]; omega
                    obtain rfl : sn = k := by omega
                    have hsum : si = (costsE p x ++ costsE q y).sum := by rw [hsi, List.take_of_length_le (by have := HSL.out; omega)]
                    have hk9 := HK8.out
                    rw [← hsum] at hk9
                    obtain ⟨kb, ko, rfl, lk, ck, k64⟩ := hk9.int (k := 0) rfl
                    have HSI := Lib.hid hsi; clear hsi
                    have HSUM := Lib.hid hsum; clear hsum
                    have HK9 := Lib.hid hk9; clear hk9
                    go_wp2_with fail
                    go_fit HCH.out; rintro e w9 ⟨rfl, hb⟩
                    have ck9 : w9.cell? ⟨kb, ko, none⟩ = some (.int .i64 si) := (hb.cell lk).trans ck
                    have hbj9 := bel_trans HBJ8.out hb
                    clear ck hb
                    have HBJ9 := Lib.hid hbj9; clear hbj9
                    go_wp2_with fail
                    go_roundw
                    case rel => exact ⟨j + 1, by omega, by go_num, HBJ9.out⟩
                    case measure => simp [intOf]; omega
                have hbo := bel_trans HBI.out hbj
                obtain rfl : bl = j := by omega
                have HBO := Lib.hid hbo; clear hbo
                go_wp2_with fail
                go_roundw
                case rel => exact ⟨i + 1, by omega, by go_num, HBO.out⟩
                case measure => simp [intOf]; omega
            obtain rfl : al = i := by omega
            have HBE := Lib.hid (bel_trans HBW.out hbi)
            clear hbi HBW
            have HBW := HBE
            go_wp2_with fail
            go_fit (CA.out _); rintro e wy ⟨rfl, hb⟩
            have HBZ := Lib.hid (bel_trans HBW.out hb)
            clear hb
            go_wp2_with fail
            go_ret
            exact ⟨rfl, HBZ.out⟩
end Go.Proofs.YtdkjanbfheehoaaGreat

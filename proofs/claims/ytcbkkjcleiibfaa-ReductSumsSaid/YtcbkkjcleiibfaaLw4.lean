/- The law ReductSums: it answers true and changes nothing that was there. -/
import Derived.Test.YtcbkkjcleiibfaaSms
import Derived.Test.YtcbkkjcleiibfaaMdp
import Derived.Test.YtcbkkjcleiibfaaStp
import Derived.Test.YtcbkkjcleiibfaaSmj
import Derived.Test.YtcbkkjcleiibfaaWr1
import Derived.Deep.RegionHeld3
namespace Go.Proofs.Ytcbkkjcleiibfaa
open Go.RowKit

set_option maxRecDepth 100000 in
set_option maxHeartbeats 4000000 in
theorem reductSums_any (p : GProg) (nA : Option Addr) (nl nc : Nat) (sA : Option Addr) (sl sc : Nat) (rA : Option Addr) (rl rc : Nat) (mA : Option Addr) (ml mc : Nat) (a b : Int) (w : World) (hp : ProgIn w p nA nl nc sA sl sc rA rl rc mA ml mc) (ha0 : 0 ≤ a) (ha1 : a ≤ 65535) (hb0 : 0 ≤ b) (hb1 : b ≤ 255) :
    Calls Try.prog 8 #[.agg #[.int .i64 p.n, .slice nA nl nc, .slice sA sl sc, .slice rA rl rc, .slice mA ml mc], .int .u16 a, .int .u8 b] w fun e w' => e = .returned (.bool true) ∧ Below w.heap.size w w' := by
  have cF := fun W (hb : Below w.heap.size w W) => few_any p nA nl nc sA sl sc rA rl rc mA ml mc W (hp.ext hb)
  have cV := fun W (hb : Below w.heap.size w W) => valid_any p nA nl nc sA sl sc rA rl rc mA ml mc W (hp.ext hb)
  have cA := awake_any
  cases hf : fewB p with
  | false =>
    rw [hf] at cF
    have HF := Lib.hid hf; clear hf
    have CF := Lib.hid cF; clear cF
    have CV := Lib.hid cV; clear cV
    have CA := Lib.hid cA; clear cA
    have HP := Lib.hid hp; clear hp
    go_enter Try.func8, Try.ntmps8
    go_wp2_with fail
    go_fit (CF.out _ (bel_alloc _ _)); rintro e w1 ⟨rfl, hb1⟩
    have HB1 := Lib.hid (bel_trans (bel_alloc _ _) hb1)
    clear hb1
    go_wp2_with fail
    go_fit (CA.out _); rintro e w2 ⟨rfl, hb2⟩
    have HB2 := Lib.hid (bel_trans HB1.out hb2)
    clear hb2
    go_wp2_with fail
    go_ret
    exact ⟨rfl, HB2.out⟩
  | true =>
    rw [hf] at cF
    by_cases hv : validE p = 0
    · have hN2 := few_n hf
      have hN0 := valid_n hv
      have hN3 : p.n ≤ 4000 := by omega
      have L := Lib.hid (sums_of hf hv)
      rw [hv] at cV
      have cS := fun W => subset_any p.n a W hN3 hN0 ha0 ha1
      generalize hm' : subsetL p.n a = m at *
      clear hm'
      have HF := Lib.hid hf; clear hf
      have HV := Lib.hid hv; clear hv
      have CF := Lib.hid cF; clear cF
      have CV := Lib.hid cV; clear cV
      have CA := Lib.hid cA; clear cA
      have HP := Lib.hid hp; clear hp
      have CS := Lib.hid cS; clear cS
      go_enter Try.func8, Try.ntmps8
      go_wp2_with fail
      go_fit (CF.out _ (bel_alloc _ _)); rintro e w1 ⟨rfl, hb1⟩
      have hx1 := (Blk.new w 36 #[.int .i64 p.n, .slice nA nl nc, .slice sA sl sc, .slice rA rl rc, .slice mA ml mc]).bel hb1
      obtain ⟨p0, p1, p2, p3, p4, p5⟩ := pcells hx1
      have HB1 := Lib.hid (bel_trans (bel_alloc _ _) hb1)
      clear hb1
      have HX1 := Lib.hid hx1; clear hx1
      go_wp2_with fail
      go_fit (CV.out _ HB1.out); rintro e w2 ⟨rfl, hb2⟩
      have hx2 := HX1.out.bel hb2
      clear p0 p1 p2 p3 p4 p5
      obtain ⟨p0, p1, p2, p3, p4, p5⟩ := pcells hx2
      have HB2 := Lib.hid (bel_trans HB1.out hb2)
      clear hb2
      have HX2 := Lib.hid hx2; clear hx2
      go_wp2_with fail
      go_fit (CS.out _); rintro e w3 ⟨A1, l1, c1, rfl, hs1, hb3⟩
      have hx3 := HX2.out.bel hb3
      clear p0 p1 p2 p3 p4 p5
      obtain ⟨p0, p1, p2, p3, p4, p5⟩ := pcells hx3
      have hp3 := HP.out.ext (bel_trans HB2.out hb3)
      have hrc := hp3.rules.cap
      have hrm := hp3.rules.max
      have HB3 := Lib.hid (bel_trans HB2.out hb3)
      clear hb3
      have f1 : 1 ≤ 1 + b % 9 := by omega
      have f2 : 1 + b % 9 ≤ 9 := by omega
      have hml := hs1.small
      have HX3 := Lib.hid hx3; clear hx3
      have HP3 := Lib.hid hp3; clear hp3
      have HS1 := Lib.hid hs1; clear hs1
      go_wp2_with fail
      generalize 1 + b % 9 = f at *
      generalize b % 9 = f0 at *
      clear p0 p1 p2 p3 p4 p5
      go_loopw [37] (fun t wr => ∃ j : Nat, j ≤ rl ∧ t = .int .i64 (j : Int) ∧ Below w3.heap.size w3 wr) (fun t _ => rl - (intOf t).toNat)
      case atStart => exact ⟨0, Nat.zero_le _, rfl, Below.refl _ _⟩
      case round =>
        obtain ⟨j, hj, rfl, hb⟩ := hrel
        by_cases hlt : j < rl
        · have hpr := HP3.out.rules.ext hb
          have hs1 := HS1.out.ext hb
          obtain ⟨r, hri, -⟩ := hpr.drop hlt
          have hsi := L.out r (List.mem_of_getElem? hri)
          obtain ⟨bb, off, hA, hl, hc, bA, bl, bc, wA, wl, wc, rfl, hbl2, d0, d1, d2, d3, d4, d5, g1, g2, g3, g4⟩ := hpr.rule hri
          have t1 := g1.small
          have t2 := g3.small
          have t3 := g4.small
          have bc1 := g3.cap
          have bc2 := g3.max
          have wc1 := g4.cap
          have wc2 := g4.max
          have hl36 := hsi.len
          rw [← g3.len] at hl36
          have j0 : (0 : Int) ≤ (j : Int) := by omega
          have j1 : (j : Int) < (rl : Int) := by omega
          have hRI : RuleIn wr r hA hl hc bA bl bc wA wl wc := ⟨g1, g2, g3, g4⟩
          have cB := fun W (hb : Below wr.heap.size wr W) => bodyOut_any r hA hl hc bA bl bc wA wl wc A1 l1 c1 m W (hRI.ext hb) (hs1.ext hb)
          have HB := Lib.hid hb
          clear hb
          obtain ⟨wo, rfl⟩ : ∃ wo : World, wo = wr := ⟨_, rfl⟩
          have hq1 := hsi.sumR
          have hbq := sumR_body hsi m
          generalize hwant : bodyC r m = want at *
          clear hwant
          cases hs : r.sum with
          | true =>
            rw [hs] at d2 cB
            have hq : sumR r = r := by unfold sumR; rw [hs]; rfl
            have HS1 := Lib.hid hs1; clear hs1
            have HPR := Lib.hid hpr; clear hpr
            have HRI := Lib.hid hri; clear hri
            have G1 := Lib.hid g1; clear g1
            have G2 := Lib.hid g2; clear g2
            have G3 := Lib.hid g3; clear g3
            have G4 := Lib.hid g4; clear g4
            have CB := Lib.hid cB; clear cB
            have HSI := Lib.hid hsi; clear hsi
            have HRI := Lib.hid hRI; clear hRI
            have HQ := Lib.hid hq; clear hq
            have HQ1 := Lib.hid hq1; clear hq1
            have HBQ := Lib.hid hbq; clear hbq
            have HS := Lib.hid hs; clear hs
            go_wp2_with fail
            go_fit (CB.out _ (bel_alloc _ _)); rintro e w5 ⟨rfl, hb5⟩
            have hx5 := (Blk.new wo 26 #[.bool r.choice, .slice hA hl hc, .bool true, .int .i64 r.bound, .slice bA bl bc, .slice wA wl wc]).bel hb5
            obtain ⟨q0, q1, q2, q3, q4, q5, q6⟩ := rcells hx5
            have HB5 := Lib.hid (bel_trans (bel_alloc _ _) hb5)
            clear hb5
            have HX5 := Lib.hid hx5; clear hx5
            go_wp2_with fail
            have fbo := Blk.new w5 26 #[.bool r.choice, .slice hA hl hc, .bool true, .int .i64 r.bound, .slice bA bl bc, .slice wA wl wc]
            have hwoX := bel_trans HB5.out (bel_alloc w5 (.cells #[.bool r.choice, .slice hA hl hc, .bool true, .int .i64 r.bound, .slice bA bl bc, .slice wA wl wc] 26))
            have hbX0 := bel_trans HB.out hwoX
            have hg12 : w3.heap.size ≤ w5.heap.size := (bel_trans HB.out HB5.out).size
            clear q0 q1 q2 q3 q4 q5 q6
            generalize w5.alloc (.cells #[.bool r.choice, .slice hA hl hc, .bool true, .int .i64 r.bound, .slice bA bl bc, .slice wA wl wc] 26) = X at *
            generalize w5.heap.size = g12 at *
            have hgx := G3.out.ext hwoX
            have hwx := G4.out.ext hwoX
            have hs1 := HS1.out.ext hwoX
            have cX := fun W (hb : Below X.heap.size X W) => CB.out W (bel_trans hwoX hb)
            obtain ⟨c0, c1', c2, c3, c4, c5, c6⟩ := rcells fbo
            have hqb : (sumR r).bound = r.bound := by rw [HQ.out]
            have hqw : (sumR r).w = r.w := by rw [HQ.out]
            have hqy : (sumR r).body = r.body := by rw [HQ.out]
            rw [← hqw] at hwx
            have hwxx := hwx
            have hb0 := HQ1.out.1.b0 HQ1.out.2
            rw [hqb] at hb0
            obtain ⟨hb1, hb2⟩ := hb0
            have hz1 : 0 ≤ r.bound * f := Int.mul_nonneg hb1 (by omega)
            have hz2 : r.bound * f ≤ 1048576 * 9 := Int.mul_le_mul hb2 f2 (by omega) (by omega)
            have wz : IntKind.i64.wrap (r.bound * f) = r.bound * f := IntWalk.i64_in _ (by omega)
            have GX := Lib.hid hgx
            have CX := Lib.hid cX
            clear hgx cX HS1
            have FBO := Lib.hid fbo; clear fbo
            have HWOX := Lib.hid hwoX; clear hwoX
            have HBX0 := Lib.hid hbX0; clear hbX0
            have HWX := Lib.hid hwx; clear hwx
            have HWXX := Lib.hid hwxx; clear hwxx
            have HS1 := Lib.hid hs1; clear hs1
            have HQB := Lib.hid hqb; clear hqb
            have HQW := Lib.hid hqw; clear hqw
            have HQY := Lib.hid hqy; clear hqy
            refine wp_region_inv (fun listed a' w' => ∃ (b0 b1 b2 b3 b4 b5 b6 b7 b8 b9 b10 b11 b12 : Bool) (u65 u66 u67 u68 u69 u70 u71 u72 u73 u74 u75 u13 : Value), listed = #[b0, b1, b2, b3, b4, b5, b6, b7, b8, b9, b10, b11, b12] ∧ a' = { tmps := #[Value.agg #[Value.int IntKind.i64 p.n, Value.slice nA nl nc, Value.slice sA sl sc, Value.slice (some { block := bb, off := off }) rl rc, Value.slice mA ml mc], Value.int IntKind.u16 a, Value.int IntKind.u8 b, Value.pointer (some { block := w.heap.size, off := 0 }), undef, undef, u6, Value.slice A1 l1 c1, Value.int IntKind.i64 f, undef, Value.pointer (some { block := wo.heap.size, off := 0 }), Value.bool want, Value.pointer (some { block := g12, off := 0 }), u13, u14, undef, u16, Value.agg #[Value.int IntKind.i64 p.n, Value.slice nA nl nc, Value.slice sA sl sc, Value.slice (some { block := bb, off := off }) rl rc, Value.slice mA ml mc], Value.bool true, Value.bool false, Value.bool false, Value.agg #[Value.int IntKind.i64 p.n, Value.slice nA nl nc, Value.slice sA sl sc, Value.slice (some { block := bb, off := off }) rl rc, Value.slice mA ml mc], Value.int IntKind.i64 0, Value.bool false, Value.bool false, undef, Value.pointer (some { block := w.heap.size, off := 0 }), Value.int IntKind.i64 p.n, Value.int IntKind.u16 a, Value.slice A1 l1 c1, Value.int IntKind.u8 b, Value.int IntKind.u8 f0, Value.int IntKind.i64 f0, Value.int IntKind.i64 f, Value.pointer (some { block := w.heap.size, off := 3 }), Value.slice (some { block := bb, off := off }) rl rc, Value.int IntKind.i64 ↑rl, Value.int IntKind.i64 ↑j, Value.bool true, Value.pointer (some { block := bb, off := off + j * 6 }), Value.agg #[Value.bool r.choice, Value.slice hA hl hc, Value.bool true, Value.int IntKind.i64 r.bound, Value.slice bA bl bc, Value.slice wA wl wc], Value.agg #[Value.bool r.choice, Value.slice hA hl hc, Value.bool true, Value.int IntKind.i64 r.bound, Value.slice bA bl bc, Value.slice wA wl wc], Value.slice A1 l1 c1, Value.bool want, Value.agg #[Value.bool r.choice, Value.slice hA hl hc, Value.bool true, Value.int IntKind.i64 r.bound, Value.slice bA bl bc, Value.slice wA wl wc], Value.pointer (some { block := wo.heap.size, off := 2 }), Value.bool true, Value.bool false, u48, u49, u50, u51, u52, u53, u54, u55, u56, u57, u58, u59, u60, u61, u62, u63, u64, u65, u66, u67, u68, u69, u70, u71, u72, u73, u74, u75, u76, u77, u78, u79, u80, u81, u82, u83, u84, u85, u86, u87, u88, u89, u90, u91, u92, u93, u94, u95, u96, u97, u98, u99, u100, u101, u102, u103, u104, u105, u106, u107, u108, u109, u110, u111, u112, u113, u114, u115, u116, u117, u118, u119, u120, u121, u122, u123, u124, u125, undef], defers := [] } ∧ SumJ X g12 r.bound (r.bound * f) f bA bl bc r.body w' b0 b1 b2 b3 b4 b5 b6 b7 b8 b9 b10 b11 b12 u65 u66 u67 u68 u69 u70 u71 u72 u73 u74 u75 u13) (by kernel_rfl) ?start ?step ?fin
            case start => exact ⟨false, false, false, false, false, false, false, false, false, false, false, false, false, _, _, _, _, _, _, _, _, _, _, _, _, rfl, rfl, SumJ.start ..⟩
            case step =>
              rintro listed a' w' i o ⟨b0, b1, b2, b3, b4, b5, b6, b7, b8, b9, b10, b11, b12, u65, u66, u67, u68, u69, u70, u71, u72, u73, u74, u75, u13, rfl, rfl, h⟩ ho hl hd K hK
              have l3 := (h.bel.cell (World.block_lt_of_cell? _ _ c3)).trans c3
              have l4 := (h.bel.cell (World.block_lt_of_cell? _ _ c4)).trans c4
              match i, ho, hl, hd with
              | 0, ho, hl, hd =>
                obtain rfl := Option.some.inj ho
                go_simp
                exact hK _ _ ⟨true, b1, b2, b3, b4, b5, b6, b7, b8, b9, b10, b11, b12, _, _, _, _, _, _, _, _, _, _, _, _, rfl, rfl, { h with f0 := fun _ => rfl }⟩
              | 1, ho, hl, hd =>
                obtain rfl := Option.some.inj ho
                have q0 : b0 = true := hd ⟨0, .data⟩ (by simp) rfl
                obtain rfl := h.f0 q0
                go_simp
                exact hK _ _ ⟨b0, true, b2, b3, b4, b5, b6, b7, b8, b9, b10, b11, b12, _, _, _, _, _, _, _, _, _, _, _, _, rfl, rfl, { h with f1 := fun _ => rfl }⟩
              | 2, ho, hl, hd =>
                obtain rfl := Option.some.inj ho
                go_simp
                exact hK _ _ ⟨b0, b1, true, b3, b4, b5, b6, b7, b8, b9, b10, b11, b12, _, _, _, _, _, _, _, _, _, _, _, _, rfl, rfl, { h with f2 := fun _ => rfl }⟩
              | 3, ho, hl, hd =>
                obtain rfl := Option.some.inj ho
                have q1 : b1 = true := hd ⟨1, .data⟩ (by simp) rfl
                have q2 : b2 = true := hd ⟨2, .data⟩ (by simp) rfl
                obtain rfl := h.f1 q1
                obtain rfl := h.f2 q2
                go_simp
                exact hK _ _ ⟨b0, b1, b2, true, b4, b5, b6, b7, b8, b9, b10, b11, b12, _, _, _, _, _, _, _, _, _, _, _, _, rfl, rfl, { h with f3 := fun _ => rfl }⟩
              | 4, ho, hl, hd =>
                obtain rfl := Option.some.inj ho
                obtain rfl : b4 = false := hl
                go_simp
                exact hK _ _ ⟨b0, b1, b2, b3, true, b5, b6, b7, b8, b9, b10, b11, b12, _, _, _, _, _, _, _, _, _, _, _, _, rfl, rfl, h.op4⟩
              | 5, ho, hl, hd =>
                obtain rfl := Option.some.inj ho
                go_simp
                exact hK _ _ ⟨b0, b1, b2, b3, b4, true, b6, b7, b8, b9, b10, b11, b12, _, _, _, _, _, _, _, _, _, _, _, _, rfl, rfl, { h with f5 := fun _ => rfl }⟩
              | 6, ho, hl, hd =>
                obtain rfl := Option.some.inj ho
                have q5 : b5 = true := hd ⟨5, .data⟩ (by simp) rfl
                obtain rfl := h.f5 q5
                go_simp
                exact hK _ _ ⟨b0, b1, b2, b3, b4, b5, true, b7, b8, b9, b10, b11, b12, _, _, _, _, _, _, _, _, _, _, _, _, rfl, rfl, { h with f6 := fun _ => rfl }⟩
              | 7, ho, hl, hd =>
                obtain rfl := Option.some.inj ho
                obtain rfl : b7 = false := hl
                have q4 : b4 = true := hd ⟨4, .data⟩ (by simp) rfl
                subst q4
                have q6 : b6 = true := hd ⟨6, .data⟩ (by simp) rfl
                obtain rfl := h.f6 q6
                obtain ⟨v, l, xs, hv, k4, -⟩ := h.row
                obtain ⟨rfl, rfl, rfl⟩ := k4 rfl rfl
                refine step_appS (by rfl) _ _ (by rfl) (by rfl) (by rfl) hv (GX.out.ext h.bel) (by omega) h.bel.size ?_
                intro v' w2 own2 hg2 hat2
                exact hK _ _ ⟨b0, b1, b2, b3, true, b5, b6, true, b8, b9, b10, b11, b12, _, _, _, _, _, _, _, _, _, _, _, _, rfl, rfl, h.op7 own2 hg2 hat2⟩
              | 8, ho, hl, hd =>
                obtain rfl := Option.some.inj ho
                obtain rfl : b8 = false := hl
                go_simp
                exact hK _ _ ⟨b0, b1, b2, b3, b4, b5, b6, b7, true, b9, b10, b11, b12, _, _, _, _, _, _, _, _, _, _, _, _, rfl, rfl, h.op8⟩
              | 9, ho, hl, hd =>
                obtain rfl := Option.some.inj ho
                obtain rfl : b9 = false := hl
                have q7 : b7 = true := hd ⟨7, .data⟩ (by simp) rfl
                subst q7
                have q8 : b8 = true := hd ⟨8, .data⟩ (by simp) rfl
                subst q8
                obtain ⟨v, l, xs, hv, -, k7, -, k8, -⟩ := h.row
                obtain ⟨rfl, rfl, rfl⟩ := k7 rfl rfl
                obtain ⟨g, rfl, hs, -⟩ := k8 rfl rfl
                refine step_appS (by rfl) _ _ (by rfl) (by rfl) (by rfl) hv hs (by omega) h.bel.size ?_
                intro v' w2 own2 hg2 hat2
                exact hK _ _ ⟨b0, b1, b2, b3, b4, b5, b6, true, true, true, b10, b11, b12, _, _, _, _, _, _, _, _, _, _, _, _, rfl, rfl, h.op9 own2 hg2 hat2⟩
              | 10, ho, hl, hd =>
                obtain rfl := Option.some.inj ho
                have q3 : b3 = true := hd ⟨3, .data⟩ (by simp) rfl
                have q9 : b9 = true := hd ⟨9, .data⟩ (by simp) rfl
                obtain rfl := h.f3 q3
                obtain ⟨v, l, xs, hv, -, -, k9, -, -⟩ := h.row
                obtain ⟨rfl, rfl, rfl⟩ := k9 q9
                obtain ⟨ga, cap, rfl, -, -⟩ := World.ownsRow.form hv.2 (by omega)
                go_simp
                exact hK _ _ ⟨b0, b1, b2, b3, b4, b5, b6, b7, b8, b9, true, b11, b12, _, _, _, _, _, _, _, _, _, _, _, _, rfl, rfl, { h with f10 := fun _ => rfl, d10 := fun _ => q9, d12 := fun hb => ⟨rfl, (h.d12 hb).2⟩ }⟩
              | 11, ho, hl, hd =>
                obtain rfl := Option.some.inj ho
                obtain rfl : b11 = false := hl
                go_simp
                exact hK _ _ ⟨b0, b1, b2, b3, b4, b5, b6, b7, b8, b9, b10, true, b12, _, _, _, _, _, _, _, _, _, _, _, _, rfl, rfl, h.op11⟩
              | 12, ho, hl, hd =>
                obtain rfl := Option.some.inj ho
                obtain rfl : b12 = false := hl
                have q10 : b10 = true := hd ⟨10, .data⟩ (by simp) rfl
                subst q10
                have q11 : b11 = true := hd ⟨11, .data⟩ (by simp) rfl
                subst q11
                obtain ⟨g, rfl, hB⟩ := h.blk
                obtain rfl := h.f10 rfl
                rw [if_pos (by rfl)]
                refine wp_store_row 26 _ _ (by rfl) g (rowM (r.bound * f) u74) (by rfl) (by rfl) 26 rowZ hB info_rule (by rfl) ?_ ?_
                · obtain ⟨v, l, xs, hv, -, -, k9, -, -⟩ := h.row
                  obtain ⟨rfl, -, -⟩ := k9 (h.d10 rfl)
                  rcases hv.2.2 with ⟨rfl, -⟩ | ⟨_, _, _, rfl, -⟩ <;> simp [Value.oneCell']
                exact hK _ _ ⟨b0, b1, b2, b3, b4, b5, b6, b7, b8, b9, true, true, true, _, _, _, _, _, _, _, _, _, _, _, _, rfl, rfl, h.op12⟩
              | i + 13, ho, hl, hd => simp at ho
            case fin =>
              rintro listed a' w' ⟨b0, b1, b2, b3, b4, b5, b6, b7, b8, b9, b10, b11, b12, u65, u66, u67, u68, u69, u70, u71, u72, u73, u74, u75, u13, rfl, rfl, h⟩ hr
              obtain rfl : b0 = true := ready_nil hr (i := 0) rfl (by simp)
              obtain rfl : b1 = true := ready_nil hr (i := 1) rfl (by simp)
              obtain rfl : b2 = true := ready_nil hr (i := 2) rfl (by simp)
              obtain rfl : b3 = true := ready_nil hr (i := 3) rfl (by simp)
              obtain rfl : b4 = true := ready_nil hr (i := 4) rfl (by simp)
              obtain rfl : b5 = true := ready_nil hr (i := 5) rfl (by simp)
              obtain rfl : b6 = true := ready_nil hr (i := 6) rfl (by simp)
              obtain rfl : b7 = true := ready_nil hr (i := 7) rfl (by simp)
              obtain rfl : b8 = true := ready_nil hr (i := 8) rfl (by simp)
              obtain rfl : b9 = true := ready_nil hr (i := 9) rfl (by simp)
              obtain rfl : b10 = true := ready_nil hr (i := 10) rfl (by simp)
              obtain rfl : b11 = true := ready_nil hr (i := 11) rfl (by simp)
              obtain rfl : b12 = true := ready_nil hr (i := 12) rfl (by simp)
              clear hr
              obtain ⟨g13, ga, cap, rfl, rfl, hg, hne, hB, hS, hbX⟩ := h.done (GX.out.all64) (by omega)
              have d5 := (hbX.cell (World.block_lt_of_cell? _ _ c5)).trans c5
              have hbW := bel_trans HBX0.out hbX
              have hwx := HWX.out.ext hbX
              have hs1x := HS1.out
              have hs1 := HS1.out.ext hbX
              have fbx := FBO.out.bel hbX
              have hgw : g13 < w'.heap.size := hB.lt
              have hvl := hwx.small
              have hvc := hwx.cap
              have hvm := hwx.max
              have hg12X := FBO.out.lt
              have hX3 : w3.heap.size ≤ X.heap.size := HBX0.out.size
              have hlW := hwx.len
              have hw36 : wl ≤ 36 := by
                have h1 := HQ1.out.1.wlen HQ1.out.2
                have h2 := HQ1.out.1.len
                omega
              clear h c0 c1' c2 c3 c4 c5 c6
              have HB := Lib.hid hB; clear hB
              have HS := Lib.hid hS; clear hS
              have HBX := Lib.hid hbX; clear hbX
              have HBW := Lib.hid hbW; clear hbW
              have HWX := Lib.hid hwx; clear hwx
              have HS1X := Lib.hid hs1x; clear hs1x
              have HS1 := Lib.hid hs1; clear hs1
              have FBX := Lib.hid fbx; clear fbx
              have HLW := Lib.hid hlW; clear hlW
              go_wp2_with fail
              clear d5
              go_loopw [14, 79] (fun u t wr => ∃ (i : Nat) (zb : Bool) (wv : Value), i ≤ wl ∧ u = .bool zb ∧ t = .int .i64 (i : Int) ∧ zb = ((sumR r).w.take i).any (fun x => decide (1048576 < x * f)) ∧ Blk wr g13 26 #[.bool false, .slice none 0 0, .bool true, .int .i64 (r.bound * f), .slice (some ⟨ga, 0, none⟩) (bl + 2) cap, wv] ∧ OwnI wr w'.heap.size wv i (((sumR r).w.take i).map fun x => min (x * f) 1048576) ∧ Kept [g13] w' wr) (fun _ t _ => wl - (intOf t).toNat)
              case atStart => exact ⟨0, false, _, Nat.zero_le _, rfl, rfl, by simp, HB.out, OwnI.nil _ _, Kept.refl _ _⟩
              case round =>
                obtain ⟨i, zb, wv, hi, rfl, rfl, hzb, bo, ow, hkp⟩ := hrel
                obtain ⟨o0, o1, o2, o3, o4, o5, o6⟩ := rcells bo
                have hsB : w'.heap.size ≤ wr.heap.size := hkp.size
                by_cases hlt2 : i < wl
                · obtain ⟨x, hx, -⟩ := HWX.out.drop hlt2
                  obtain ⟨xb, xo, rfl, lx, cx0, _⟩ := HWX.out.int hx
                  have hxlt : xb < X.heap.size := by
                    obtain ⟨_, _, e2, l2, _, _⟩ := HWXX.out.int hx
                    cases e2; exact l2
                  have cx := hkp.cell cx0 (by simp; omega)
                  have hx0 := HQ1.out.1.w0 HQ1.out.2 x (List.mem_of_getElem? hx)
                  have hm1 : 0 ≤ x * f := Int.mul_nonneg hx0.1 (by omega)
                  have hm2 : x * f ≤ 1048576 * 9 := Int.mul_le_mul hx0.2 f2 (by omega) (by omega)
                  have wx : IntKind.i64.wrap (x * f) = x * f := IntWalk.i64_in _ (by omega)
                  have i0 : (0 : Int) ≤ (i : Int) := by omega
                  have i1 : (i : Int) < (wl : Int) := by omega
                  have e1 := take_snoc' hx
                  have hz2 : (zb || decide (1048576 < x * f)) = ((sumR r).w.take (i + 1)).any (fun x => decide (1048576 < x * f)) := by rw [e1, List.any_append, ← hzb]; simp
                  have e3 : ((sumR r).w.take (i + 1)).map (fun x => min (x * f) 1048576) = ((sumR r).w.take i).map (fun x => min (x * f) 1048576) ++ [min (x * f) 1048576] := by rw [e1]; simp
                  clear e1 cx0
                  obtain ⟨v1, w6, hrun, own1, hg1, hat1⟩ := app1 ow (min (x * f) 1048576) (by omega) hsB 24
                  obtain ⟨g1, cap1, rfl, hgb1, hgl1⟩ := World.ownsRow.form own1.2 (by omega)
                  have hro : some g13 ≠ wv.ownBlock := fun e => by have := (ow.2.lt _ e.symm).1; omega
                  have o5' := (hg1.cell_far ⟨g13, 5, none⟩ o6 hro).trans o5
                  have f5 := (hg1.frozen_far ⟨g13, 5, none⟩ o6 hro).trans (bo.frozen 5)
                  have bo' : Blk (w6.setCell ⟨g13, 5, none⟩ (.slice (some ⟨g1, 0, none⟩) (i + 1) cap1)) g13 26 #[.bool false, .slice none 0 0, .bool true, .int .i64 (r.bound * f), .slice (some ⟨ga, 0, none⟩) (bl + 2) cap, .slice (some ⟨g1, 0, none⟩) (i + 1) cap1] := (bo.grown hg1 hro).set_ 5 _
                  have ow' := own1.keptS ((Kept.refl [g13] w6).set (p := ⟨g13, 5, none⟩) (.inl (by simp)) (.slice (some ⟨g1, 0, none⟩) (i + 1) cap1)) (fun z hz hm => by have := (own1.2.lt z hz).1; simp at hm; omega)
                  have kp' := (hkp.grown hg1 (fun z hz => .inr (ow.2.lt z hz).1)).set (p := ⟨g13, 5, none⟩) (.inl (by simp)) (.slice (some ⟨g1, 0, none⟩) (i + 1) cap1)
                  have BO := Lib.hid bo; clear bo
                  have OW := Lib.hid ow; clear ow
                  have HKP := Lib.hid hkp; clear hkp
                  have HRUN := Lib.hid hrun; clear hrun
                  have OWN1 := Lib.hid own1; clear own1
                  have HG1 := Lib.hid hg1; clear hg1
                  have HAT1 := Lib.hid hat1; clear hat1
                  have HRO := Lib.hid hro; clear hro
                  have BO' := Lib.hid bo'; clear bo'
                  have OW' := Lib.hid ow'; clear ow'
                  have KP' := Lib.hid kp'; clear kp'
                  have E3 := Lib.hid e3; clear e3
                  have HZB := Lib.hid hzb; clear hzb
                  have HZ2 := Lib.hid hz2; clear hz2
                  have HX := Lib.hid hx; clear hx
                  cases zb with
                  | true =>
                    go_wp2_with (at_builtin; refine wpList_append_run rfl _ _ _ rfl _ _ rfl rfl _ _ HRUN.out ?_)
                    go_roundw
                    case rel => exact ⟨i + 1, true, _, by omega, rfl, by go_num, by rw [← HZ2.out]; rfl, BO'.out, by rw [E3.out]; exact OW'.out, KP'.out⟩
                    case measure => simp [intOf]; omega
                  | false =>
                    go_wp2_with (at_builtin; refine wpList_append_run rfl _ _ _ rfl _ _ rfl rfl _ _ HRUN.out ?_)
                    go_roundw
                    case rel => exact ⟨i + 1, decide (1048576 < x * f), _, by omega, rfl, by go_num, by rw [← HZ2.out]; rfl, BO'.out, by rw [E3.out]; exact OW'.out, KP'.out⟩
                    case measure => simp [intOf]; omega
                · obtain rfl : wl = i := by omega
                  rw [List.take_of_length_le (by rw [← HLW.out]; omega)] at hzb ow
                  have hwle : ∀ x ∈ (sumR r).w, 0 ≤ x ∧ x ≤ 1048576 := HQ1.out.1.w0 HQ1.out.2
                  have hy64 : ∀ y ∈ ((sumR r).w.map fun x => min (x * f) 1048576) ++ [7, 7], I64 y := fun y hy => by
                    rcases List.mem_append.1 hy with hy | hy
                    · obtain ⟨x, hx, rfl⟩ := List.mem_map.1 hy
                      have h1 := hwle x hx
                      have h2 : 0 ≤ x * f := Int.mul_nonneg h1.1 (by omega)
                      unfold I64; omega
                    · simp at hy; subst hy; simp [I64]
                  have hblk7 := Blk.new wr 3 #[.int .i64 7, .int .i64 7]
                  have hls : wl + 2 ≤ 17592186044416 := by omega
                  have hbs : w'.heap.size ≤ (wr.alloc (.cells #[.int .i64 7, .int .i64 7] 3)).heap.size := Nat.le_trans hsB (bel_alloc _ _).size
                  obtain ⟨v1, w6, hrun, own1, hg1, hat1⟩ := appS (ow.bel (bel_alloc wr (.cells #[.int .i64 7, .int .i64 7] 3))) (sl_ints (l := 2) [7, 7] hblk7 rfl (by omega) (by simp [I64])) hls hbs 24
                  obtain ⟨g1, cap1, rfl, hgb1, hgl1⟩ := World.ownsRow.form own1.2 (by omega)
                  have hro : some g13 ≠ wv.ownBlock := fun e => by have := (ow.2.lt _ e.symm).1; omega
                  have bo2 := (bo.alloc (.cells #[.int .i64 7, .int .i64 7] 3)).grown hg1 hro
                  have kp2 := (hkp.alloc (.cells #[.int .i64 7, .int .i64 7] 3)).grown hg1 (fun z hz => .inr (ow.2.lt z hz).1)
                  obtain ⟨n0, n1, n2, n3, n4, n5, n6⟩ := rcells bo2
                  have m5 := bo2.frozen 5
                  have m3 := bo2.frozen 3
                  have wz7 : IntKind.i64.wrap (r.bound * f + 7) = r.bound * f + 7 := IntWalk.i64_in _ (by omega)
                  have k7 : Kept [g13] w6 ((w6.setCell ⟨g13, 5, none⟩ (.slice (some ⟨g1, 0, none⟩) (wl + 2) cap1)).setCell ⟨g13, 3, none⟩ (.int .i64 (r.bound * f + 7))) := ((Kept.refl [g13] w6).set (.inl (by simp)) _).set (.inl (by simp)) _
                  have bo7 : Blk ((w6.setCell ⟨g13, 5, none⟩ (.slice (some ⟨g1, 0, none⟩) (wl + 2) cap1)).setCell ⟨g13, 3, none⟩ (.int .i64 (r.bound * f + 7))) g13 26 #[.bool false, .slice none 0 0, .bool true, .int .i64 (r.bound * f + 7), .slice (some ⟨ga, 0, none⟩) (bl + 2) cap, .slice (some ⟨g1, 0, none⟩) (wl + 2) cap1] := (bo2.set_ 5 _).set_ 3 _
                  have own7 := own1.keptS k7 (fun z hz hm => by have := (own1.2.lt z hz).1; simp at hm; omega)
                  obtain ⟨_, _, e7, sl7⟩ := own7.sl hls hy64
                  cases e7
                  have kp7 := kp2.trans k7
                  have fb7 := kp7.blk FBX.out (by simp; omega)
                  obtain ⟨t0, t1', t2', t3', t4', t5', t6'⟩ := rcells fb7
                  have hb7 := Kept.below HBX.out kp7 HBX.out.size (fun z hz => by simp at hz; omega)
                  have sb7 := HS.out.keptM kp7 (fun _ ad e hm => by cases e; simp at hm; exact hne hm)
                  have s17 := HS1.out.keptM kp7 (fun h0 ad e hm => by
                    have := HS1X.out.blk_lt h0 e
                    simp at hm; omega)
                  have hsz7 := kp7.size
                  clear o0 o1 o2 o3 o4
                  have BO := Lib.hid bo; clear bo
                  have OW := Lib.hid ow; clear ow
                  have HKP := Lib.hid hkp; clear hkp
                  have HRUN := Lib.hid hrun; clear hrun
                  have OWN1 := Lib.hid own1; clear own1
                  have HG1 := Lib.hid hg1; clear hg1
                  have HAT1 := Lib.hid hat1; clear hat1
                  have HRO := Lib.hid hro; clear hro
                  have BO2 := Lib.hid bo2; clear bo2
                  have KP2 := Lib.hid kp2; clear kp2
                  have HWLE := Lib.hid hwle; clear hwle
                  have HY64 := Lib.hid hy64; clear hy64
                  have HBLK7 := Lib.hid hblk7; clear hblk7
                  have HZB := Lib.hid hzb; clear hzb
                  have K7 := Lib.hid k7; clear k7
                  have BO7 := Lib.hid bo7; clear bo7
                  have OWN7 := Lib.hid own7; clear own7
                  have SL7 := Lib.hid sl7; clear sl7
                  have KP7 := Lib.hid kp7; clear kp7
                  have FB7 := Lib.hid fb7; clear fb7
                  have HB7 := Lib.hid hb7; clear hb7
                  have SB7 := Lib.hid sb7; clear sb7
                  have S17 := Lib.hid s17; clear s17
                  go_wp2_with (at_builtin; refine wpList_append_run rfl _ _ _ rfl _ _ rfl rfl _ _ HRUN.out ?_)
                  generalize ((w6.setCell ⟨g13, 5, none⟩ (.slice (some ⟨g1, 0, none⟩) (wl + 2) cap1)).setCell ⟨g13, 3, none⟩ (.int .i64 (r.bound * f + 7))) = W7 at *
                  go_fit (CX.out _ HB7.out); rintro e w8 ⟨rfl, hb8⟩
                  have bo8 := BO7.out.bel hb8
                  have HB8 := Lib.hid (bel_trans HBX0.out (bel_trans HB7.out hb8))
                  have sb8 := SB7.out.ext hb8
                  have sl8 := SL7.out.ext hb8
                  have s18 := S17.out.ext hb8
                  clear hb8 n0 n1 n2 n3 n4 n5 m5 m3 t0 t1' t2' t3' t4' t5' t6'
                  obtain ⟨n0, n1, n2, n3, n4, n5, n7⟩ := rcells bo8
                  have hww : (want != want) = false := by simp
                  cases zb with
                  | true =>
                    have BO8 := Lib.hid bo8; clear bo8
                    have SB8 := Lib.hid sb8; clear sb8
                    have SL8 := Lib.hid sl8; clear sl8
                    have S18 := Lib.hid s18; clear s18
                    go_wp2_with fail
                    go_roundw
                    case rel => exact ⟨j + 1, by omega, by go_num, HB8.out⟩
                    case measure => simp [intOf]; omega
                  | false =>
                    have hmq : moreR (sumR r) f = ⟨false, [], true, r.bound * f + 7, r.body ++ [1, -1], ((sumR r).w.map fun x => min (x * f) 1048576) ++ [7, 7]⟩ := by unfold moreR; rw [HQB.out, HQY.out]
                    have hmw := more_body HQ1.out.1 HQ1.out.2 f f1 HZB.out.symm m
                    rw [hmq, HBQ.out] at hmw
                    have cM := bodyOut_any (⟨false, [], true, r.bound * f + 7, r.body ++ [1, -1], ((sumR r).w.map fun x => min (x * f) 1048576) ++ [7, 7]⟩ : GRule) none 0 0 (some ⟨ga, 0, none⟩) (bl + 2) cap (some ⟨g1, 0, none⟩) (wl + 2) cap1 A1 l1 c1 m w8 ⟨SlIs.nil _ _, show I64 (r.bound * f + 7) by unfold I64; omega, sb8, sl8⟩ s18
                    rw [hmw] at cM
                    have BO8 := Lib.hid bo8; clear bo8
                    have SB8 := Lib.hid sb8; clear sb8
                    have SL8 := Lib.hid sl8; clear sl8
                    have S18 := Lib.hid s18; clear s18
                    have CM := Lib.hid cM; clear cM
                    have HMQ := Lib.hid hmq; clear hmq
                    have HMW := Lib.hid hmw; clear hmw
                    go_wp2_with fail
                    go_fit CM.out; rintro e w9 ⟨rfl, hb9⟩
                    have HB9 := Lib.hid (bel_trans HB8.out hb9)
                    clear hb9
                    go_wp2_with fail
                    go_roundw
                    case rel => exact ⟨j + 1, by omega, by go_num, HB9.out⟩
                    case measure => simp [intOf]; omega
          | false =>
            rw [hs] at d2 cB
            have hq : sumR r = ⟨false, [], true, (r.body.length : Int), r.body, List.replicate r.body.length 1⟩ := by unfold sumR; rw [hs]; rfl
            have HS1 := Lib.hid hs1; clear hs1
            have HPR := Lib.hid hpr; clear hpr
            have HRI := Lib.hid hri; clear hri
            have G1 := Lib.hid g1; clear g1
            have G2 := Lib.hid g2; clear g2
            have G3 := Lib.hid g3; clear g3
            have G4 := Lib.hid g4; clear g4
            have CB := Lib.hid cB; clear cB
            have HSI := Lib.hid hsi; clear hsi
            have HRI := Lib.hid hRI; clear hRI
            have HQ := Lib.hid hq; clear hq
            have HQ1 := Lib.hid hq1; clear hq1
            have HBQ := Lib.hid hbq; clear hbq
            have HS := Lib.hid hs; clear hs
            go_wp2_with fail
            go_fit (CB.out _ (bel_alloc _ _)); rintro e w5 ⟨rfl, hb5⟩
            have hx5 := (Blk.new wo 26 #[.bool r.choice, .slice hA hl hc, .bool false, .int .i64 r.bound, .slice bA bl bc, .slice wA wl wc]).bel hb5
            obtain ⟨q0, q1, q2, q3, q4, q5, q6⟩ := rcells hx5
            have HB5 := Lib.hid (bel_trans (bel_alloc _ _) hb5)
            clear hb5
            have y12 := Blk.new w5 26 #[.bool r.choice, .slice hA hl hc, .bool false, .int .i64 r.bound, .slice bA bl bc, .slice wA wl wc]
            have z12 := y12.row #[.bool false, .slice none 0 0, .bool true, .int .i64 (bl : Int), .slice bA bl bc, .slice none 0 0]
            have hkr : Kept [w5.heap.size] (w5.alloc (.cells #[.bool r.choice, .slice hA hl hc, .bool false, .int .i64 r.bound, .slice bA bl bc, .slice wA wl wc] 26)) ((w5.alloc (.cells #[.bool r.choice, .slice hA hl hc, .bool false, .int .i64 r.bound, .slice bA bl bc, .slice wA wl wc] 26)).setRow w5.heap.size #[.bool false, .slice none 0 0, .bool true, .int .i64 (bl : Int), .slice bA bl bc, .slice none 0 0]) := (Kept.refl _ _).row (.inl (by simp)) _
            have y4 : ((w5.alloc (.cells #[.bool r.choice, .slice hA hl hc, .bool false, .int .i64 r.bound, .slice bA bl bc, .slice wA wl wc] 26)).setRow w5.heap.size #[.bool false, .slice none 0 0, .bool true, .int .i64 (bl : Int), .slice bA bl bc, .slice none 0 0]).cell? ⟨wo.heap.size, 4, none⟩ = some (.slice bA bl bc) := (hkr.blk (hx5.alloc _) (by simp; omega)).cell 4
            have hbw := Kept.below (bel_alloc w5 (.cells #[.bool r.choice, .slice hA hl hc, .bool false, .int .i64 r.bound, .slice bA bl bc, .slice wA wl wc] 26)) hkr (by simp) (fun z hz => by simp at hz; omega)
            have hszb : w5.heap.size < ((w5.alloc (.cells #[.bool r.choice, .slice hA hl hc, .bool false, .int .i64 r.bound, .slice bA bl bc, .slice wA wl wc] 26)).setRow w5.heap.size #[.bool false, .slice none 0 0, .bool true, .int .i64 (bl : Int), .slice bA bl bc, .slice none 0 0]).heap.size := by rw [size_setRow]; simp
            have HX5 := Lib.hid hx5; clear hx5
            have Y12 := Lib.hid y12; clear y12
            have Z12 := Lib.hid z12; clear z12
            have HKR := Lib.hid hkr; clear hkr
            have HBW := Lib.hid hbw; clear hbw
            go_wp2_with (refine wpList_store_row (by rfl) 26 _ _ (by rfl) w5.heap.size #[.bool false, .slice none 0 0, .bool true, .int .i64 (bl : Int), .slice bA bl bc, .slice none 0 0] (by rfl) (by rfl) 26 _ Y12.out info_rule (by rfl) (by simp [Value.oneCell']) ?_)
            have hwob := bel_trans HB5.out HBW.out
            have hg0 : wo.heap.size ≤ w5.heap.size := HB5.out.size
            have HWOB := Lib.hid hwob; clear hwob
            generalize (w5.alloc (.cells #[.bool r.choice, .slice hA hl hc, .bool false, .int .i64 r.bound, .slice bA bl bc, .slice wA wl wc] 26)).setRow w5.heap.size #[.bool false, .slice none 0 0, .bool true, .int .i64 (bl : Int), .slice bA bl bc, .slice none 0 0] = Wb at *
            generalize w5.heap.size = g12 at *
            clear y4 q0 q1 q2 q3 q4 q5
            go_loopw [57] (fun t wr => ∃ (i : Nat) (wv : Value), i ≤ bl ∧ t = .int .i64 (i : Int) ∧ Blk wr g12 26 #[.bool false, .slice none 0 0, .bool true, .int .i64 (bl : Int), .slice bA bl bc, wv] ∧ OwnI wr Wb.heap.size wv i (List.replicate i 1) ∧ Kept [g12] Wb wr) (fun t _ => bl - (intOf t).toNat)
            case atStart => exact ⟨0, _, Nat.zero_le _, rfl, Z12.out, OwnI.nil _ _, Kept.refl _ _⟩
            case round =>
              obtain ⟨i, wv, hi, rfl, bo, ow, hkp⟩ := hrel
              obtain ⟨o0, o1, o2, o3, o4, o5, o6⟩ := rcells bo
              have hsB : Wb.heap.size ≤ wr.heap.size := hkp.size
              by_cases hlt2 : i < bl
              · have i0 : (0 : Int) ≤ (i : Int) := by omega
                have i1 : (i : Int) < (bl : Int) := by omega
                obtain ⟨v1, w6, hrun, own1, hg1, hat1⟩ := app1 ow 1 (by omega) hsB 24
                obtain ⟨g1, cap1, rfl, hgb1, hgl1⟩ := World.ownsRow.form own1.2 (by omega)
                have hro : some g12 ≠ wv.ownBlock := fun e => by have := (ow.2.lt _ e.symm).1; omega
                have c5 := (hg1.cell_far ⟨g12, 5, none⟩ o6 hro).trans o5
                have f5 := (hg1.frozen_far ⟨g12, 5, none⟩ o6 hro).trans (bo.frozen 5)
                have bo' : Blk (w6.setCell ⟨g12, 5, none⟩ (.slice (some ⟨g1, 0, none⟩) (i + 1) cap1)) g12 26 #[.bool false, .slice none 0 0, .bool true, .int .i64 (bl : Int), .slice bA bl bc, .slice (some ⟨g1, 0, none⟩) (i + 1) cap1] := (bo.grown hg1 hro).set_ 5 _
                have ow' := own1.keptS ((Kept.refl [g12] w6).set (p := ⟨g12, 5, none⟩) (.inl (by simp)) (.slice (some ⟨g1, 0, none⟩) (i + 1) cap1)) (fun z hz hm => by have := (own1.2.lt z hz).1; simp at hm; omega)
                have kp' := (hkp.grown hg1 (fun z hz => .inr (ow.2.lt z hz).1)).set (p := ⟨g12, 5, none⟩) (.inl (by simp)) (.slice (some ⟨g1, 0, none⟩) (i + 1) cap1)
                have er : List.replicate (i + 1) (1 : Int) = List.replicate i 1 ++ [1] := by rw [List.replicate_succ']
                have BO := Lib.hid bo; clear bo
                have OW := Lib.hid ow; clear ow
                have HKP := Lib.hid hkp; clear hkp
                have HRUN := Lib.hid hrun; clear hrun
                have OWN1 := Lib.hid own1; clear own1
                have HG1 := Lib.hid hg1; clear hg1
                have HAT1 := Lib.hid hat1; clear hat1
                have HRO := Lib.hid hro; clear hro
                have BO' := Lib.hid bo'; clear bo'
                have OW' := Lib.hid ow'; clear ow'
                have KP' := Lib.hid kp'; clear kp'
                have ER := Lib.hid er; clear er
                go_wp2_with (at_builtin; refine wpList_append_run rfl _ _ _ rfl _ _ rfl rfl _ _ HRUN.out ?_)
                go_roundw
                case rel => exact ⟨i + 1, _, by omega, by go_num, BO'.out, by rw [ER.out]; exact OW'.out, KP'.out⟩
                case measure => simp [intOf]; omega
              · obtain rfl : bl = i := by omega
                obtain ⟨wA', wc', rfl, fW⟩ := ow.sl (by omega) (fun x hx => by rw [List.eq_of_mem_replicate hx]; simp [I64])
                have hwoX := Kept.below HWOB.out hkp (by omega) (fun z hz => by simp at hz; omega)
                have hbX0 := bel_trans HB.out hwoX
                have hg12 : w3.heap.size ≤ g12 := Nat.le_trans HB.out.size hg0
                clear o0 o1 o2 o3 o4 o5
                have fbo := bo
                have BO := Lib.hid bo; clear bo
                have OW := Lib.hid ow; clear ow
                have HKP := Lib.hid hkp; clear hkp
                go_wp2_with fail
                obtain ⟨X, rfl⟩ : ∃ X : World, X = wr := ⟨_, rfl⟩
                have hgx := G3.out.ext hwoX
                have hs1 := HS1.out.ext hwoX
                obtain ⟨c0, c1', c2, c3, c4, c5, c6⟩ := rcells fbo
                have hsq : sumR r = ⟨false, [], true, (bl : Int), r.body, List.replicate bl 1⟩ := by rw [HQ.out, G3.out.len]
                have hqb : (sumR r).bound = (bl : Int) := by rw [hsq]
                have hqw : (sumR r).w = List.replicate bl 1 := by rw [hsq]
                have hqy : (sumR r).body = r.body := by rw [hsq]
                have cX := fun W (hb : Below X.heap.size X W) => bodyOut_any (⟨false, [], true, (bl : Int), r.body, List.replicate bl 1⟩ : GRule) none 0 0 bA bl bc wA' bl wc' A1 l1 c1 m W ⟨SlIs.nil _ _, show I64 (bl : Int) by unfold I64; omega, hgx.ext hb, fW.ext hb⟩ (hs1.ext hb)
                rw [← hsq, HBQ.out] at cX
                simp only [hsq] at cX
                have hwx := fW
                rw [← hqw] at hwx
                have hwxx := hwx
                have hb0 := HQ1.out.1.b0 HQ1.out.2
                rw [hqb] at hb0
                obtain ⟨hb1, hb2⟩ := hb0
                have hz1 : 0 ≤ (bl : Int) * f := Int.mul_nonneg hb1 (by omega)
                have hz2 : (bl : Int) * f ≤ 1048576 * 9 := Int.mul_le_mul hb2 f2 (by omega) (by omega)
                have wz : IntKind.i64.wrap ((bl : Int) * f) = (bl : Int) * f := IntWalk.i64_in _ (by omega)
                have GX := Lib.hid hgx
                have CX := Lib.hid cX
                clear hgx cX HS1
                have FBO := Lib.hid fbo; clear fbo
                have HWOX := Lib.hid hwoX; clear hwoX
                have HBX0 := Lib.hid hbX0; clear hbX0
                have HWX := Lib.hid hwx; clear hwx
                have HWXX := Lib.hid hwxx; clear hwxx
                have HS1 := Lib.hid hs1; clear hs1
                have HQB := Lib.hid hqb; clear hqb
                have HQW := Lib.hid hqw; clear hqw
                have HQY := Lib.hid hqy; clear hqy
                have HSQ := Lib.hid hsq; clear hsq
                have FW := Lib.hid fW; clear fW
                refine wp_region_inv (fun listed a' w' => ∃ (b0 b1 b2 b3 b4 b5 b6 b7 b8 b9 b10 b11 b12 : Bool) (u65 u66 u67 u68 u69 u70 u71 u72 u73 u74 u75 u13 : Value), listed = #[b0, b1, b2, b3, b4, b5, b6, b7, b8, b9, b10, b11, b12] ∧ a' = { tmps := #[Value.agg #[Value.int IntKind.i64 p.n, Value.slice nA nl nc, Value.slice sA sl sc, Value.slice (some { block := bb, off := off }) rl rc, Value.slice mA ml mc], Value.int IntKind.u16 a, Value.int IntKind.u8 b, Value.pointer (some { block := w.heap.size, off := 0 }), undef, undef, u6, Value.slice A1 l1 c1, Value.int IntKind.i64 f, undef, Value.pointer (some { block := wo.heap.size, off := 0 }), Value.bool want, Value.pointer (some { block := g12, off := 0 }), u13, u14, undef, u16, Value.agg #[Value.int IntKind.i64 p.n, Value.slice nA nl nc, Value.slice sA sl sc, Value.slice (some { block := bb, off := off }) rl rc, Value.slice mA ml mc], Value.bool true, Value.bool false, Value.bool false, Value.agg #[Value.int IntKind.i64 p.n, Value.slice nA nl nc, Value.slice sA sl sc, Value.slice (some { block := bb, off := off }) rl rc, Value.slice mA ml mc], Value.int IntKind.i64 0, Value.bool false, Value.bool false, undef, Value.pointer (some { block := w.heap.size, off := 0 }), Value.int IntKind.i64 p.n, Value.int IntKind.u16 a, Value.slice A1 l1 c1, Value.int IntKind.u8 b, Value.int IntKind.u8 f0, Value.int IntKind.i64 f0, Value.int IntKind.i64 f, Value.pointer (some { block := w.heap.size, off := 3 }), Value.slice (some { block := bb, off := off }) rl rc, Value.int IntKind.i64 ↑rl, Value.int IntKind.i64 ↑j, Value.bool true, Value.pointer (some { block := bb, off := off + j * 6 }), Value.agg #[Value.bool r.choice, Value.slice hA hl hc, Value.bool false, Value.int IntKind.i64 r.bound, Value.slice bA bl bc, Value.slice wA wl wc], Value.agg #[Value.bool r.choice, Value.slice hA hl hc, Value.bool false, Value.int IntKind.i64 r.bound, Value.slice bA bl bc, Value.slice wA wl wc], Value.slice A1 l1 c1, Value.bool want, Value.agg #[Value.bool r.choice, Value.slice hA hl hc, Value.bool false, Value.int IntKind.i64 r.bound, Value.slice bA bl bc, Value.slice wA wl wc], Value.pointer (some { block := wo.heap.size, off := 2 }), Value.bool false, Value.bool true, Value.pointer (some { block := wo.heap.size, off := 4 }), Value.slice bA bl bc, Value.int IntKind.i64 ↑bl, Value.pointer (some { block := wo.heap.size, off := 4 }), Value.slice bA bl bc, Value.agg #[Value.bool false, Value.slice none 0 0, Value.bool true, Value.int IntKind.i64 ↑bl, Value.slice bA bl bc, Value.slice none 0 0], Value.pointer (some { block := wo.heap.size, off := 4 }), Value.slice bA bl bc, Value.int IntKind.i64 ↑bl, Value.int IntKind.i64 ↑bl, Value.bool false, u59, u60, u61, u62, u63, u64, u65, u66, u67, u68, u69, u70, u71, u72, u73, u74, u75, u76, u77, u78, u79, u80, u81, u82, u83, u84, u85, u86, u87, u88, u89, u90, u91, u92, u93, u94, u95, u96, u97, u98, u99, u100, u101, u102, u103, u104, u105, u106, u107, u108, u109, u110, u111, u112, u113, u114, u115, u116, u117, u118, u119, u120, u121, u122, u123, u124, u125, undef], defers := [] } ∧ SumJ X g12 (bl : Int) ((bl : Int) * f) f bA bl bc r.body w' b0 b1 b2 b3 b4 b5 b6 b7 b8 b9 b10 b11 b12 u65 u66 u67 u68 u69 u70 u71 u72 u73 u74 u75 u13) (by kernel_rfl) ?start ?step ?fin
                case start => exact ⟨false, false, false, false, false, false, false, false, false, false, false, false, false, _, _, _, _, _, _, _, _, _, _, _, _, rfl, rfl, SumJ.start ..⟩
                case step =>
                  rintro listed a' w' i o ⟨b0, b1, b2, b3, b4, b5, b6, b7, b8, b9, b10, b11, b12, u65, u66, u67, u68, u69, u70, u71, u72, u73, u74, u75, u13, rfl, rfl, h⟩ ho hl hd K hK
                  have l3 := (h.bel.cell (World.block_lt_of_cell? _ _ c3)).trans c3
                  have l4 := (h.bel.cell (World.block_lt_of_cell? _ _ c4)).trans c4
                  match i, ho, hl, hd with
                  | 0, ho, hl, hd =>
                    obtain rfl := Option.some.inj ho
                    go_simp
                    exact hK _ _ ⟨true, b1, b2, b3, b4, b5, b6, b7, b8, b9, b10, b11, b12, _, _, _, _, _, _, _, _, _, _, _, _, rfl, rfl, { h with f0 := fun _ => rfl }⟩
                  | 1, ho, hl, hd =>
                    obtain rfl := Option.some.inj ho
                    have q0 : b0 = true := hd ⟨0, .data⟩ (by simp) rfl
                    obtain rfl := h.f0 q0
                    go_simp
                    exact hK _ _ ⟨b0, true, b2, b3, b4, b5, b6, b7, b8, b9, b10, b11, b12, _, _, _, _, _, _, _, _, _, _, _, _, rfl, rfl, { h with f1 := fun _ => rfl }⟩
                  | 2, ho, hl, hd =>
                    obtain rfl := Option.some.inj ho
                    go_simp
                    exact hK _ _ ⟨b0, b1, true, b3, b4, b5, b6, b7, b8, b9, b10, b11, b12, _, _, _, _, _, _, _, _, _, _, _, _, rfl, rfl, { h with f2 := fun _ => rfl }⟩
                  | 3, ho, hl, hd =>
                    obtain rfl := Option.some.inj ho
                    have q1 : b1 = true := hd ⟨1, .data⟩ (by simp) rfl
                    have q2 : b2 = true := hd ⟨2, .data⟩ (by simp) rfl
                    obtain rfl := h.f1 q1
                    obtain rfl := h.f2 q2
                    go_simp
                    exact hK _ _ ⟨b0, b1, b2, true, b4, b5, b6, b7, b8, b9, b10, b11, b12, _, _, _, _, _, _, _, _, _, _, _, _, rfl, rfl, { h with f3 := fun _ => rfl }⟩
                  | 4, ho, hl, hd =>
                    obtain rfl := Option.some.inj ho
                    obtain rfl : b4 = false := hl
                    go_simp
                    exact hK _ _ ⟨b0, b1, b2, b3, true, b5, b6, b7, b8, b9, b10, b11, b12, _, _, _, _, _, _, _, _, _, _, _, _, rfl, rfl, h.op4⟩
                  | 5, ho, hl, hd =>
                    obtain rfl := Option.some.inj ho
                    go_simp
                    exact hK _ _ ⟨b0, b1, b2, b3, b4, true, b6, b7, b8, b9, b10, b11, b12, _, _, _, _, _, _, _, _, _, _, _, _, rfl, rfl, { h with f5 := fun _ => rfl }⟩
                  | 6, ho, hl, hd =>
                    obtain rfl := Option.some.inj ho
                    have q5 : b5 = true := hd ⟨5, .data⟩ (by simp) rfl
                    obtain rfl := h.f5 q5
                    go_simp
                    exact hK _ _ ⟨b0, b1, b2, b3, b4, b5, true, b7, b8, b9, b10, b11, b12, _, _, _, _, _, _, _, _, _, _, _, _, rfl, rfl, { h with f6 := fun _ => rfl }⟩
                  | 7, ho, hl, hd =>
                    obtain rfl := Option.some.inj ho
                    obtain rfl : b7 = false := hl
                    have q4 : b4 = true := hd ⟨4, .data⟩ (by simp) rfl
                    subst q4
                    have q6 : b6 = true := hd ⟨6, .data⟩ (by simp) rfl
                    obtain rfl := h.f6 q6
                    obtain ⟨v, l, xs, hv, k4, -⟩ := h.row
                    obtain ⟨rfl, rfl, rfl⟩ := k4 rfl rfl
                    refine step_appS (by rfl) _ _ (by rfl) (by rfl) (by rfl) hv (GX.out.ext h.bel) (by omega) h.bel.size ?_
                    intro v' w2 own2 hg2 hat2
                    exact hK _ _ ⟨b0, b1, b2, b3, true, b5, b6, true, b8, b9, b10, b11, b12, _, _, _, _, _, _, _, _, _, _, _, _, rfl, rfl, h.op7 own2 hg2 hat2⟩
                  | 8, ho, hl, hd =>
                    obtain rfl := Option.some.inj ho
                    obtain rfl : b8 = false := hl
                    go_simp
                    exact hK _ _ ⟨b0, b1, b2, b3, b4, b5, b6, b7, true, b9, b10, b11, b12, _, _, _, _, _, _, _, _, _, _, _, _, rfl, rfl, h.op8⟩
                  | 9, ho, hl, hd =>
                    obtain rfl := Option.some.inj ho
                    obtain rfl : b9 = false := hl
                    have q7 : b7 = true := hd ⟨7, .data⟩ (by simp) rfl
                    subst q7
                    have q8 : b8 = true := hd ⟨8, .data⟩ (by simp) rfl
                    subst q8
                    obtain ⟨v, l, xs, hv, -, k7, -, k8, -⟩ := h.row
                    obtain ⟨rfl, rfl, rfl⟩ := k7 rfl rfl
                    obtain ⟨g, rfl, hs, -⟩ := k8 rfl rfl
                    refine step_appS (by rfl) _ _ (by rfl) (by rfl) (by rfl) hv hs (by omega) h.bel.size ?_
                    intro v' w2 own2 hg2 hat2
                    exact hK _ _ ⟨b0, b1, b2, b3, b4, b5, b6, true, true, true, b10, b11, b12, _, _, _, _, _, _, _, _, _, _, _, _, rfl, rfl, h.op9 own2 hg2 hat2⟩
                  | 10, ho, hl, hd =>
                    obtain rfl := Option.some.inj ho
                    have q3 : b3 = true := hd ⟨3, .data⟩ (by simp) rfl
                    have q9 : b9 = true := hd ⟨9, .data⟩ (by simp) rfl
                    obtain rfl := h.f3 q3
                    obtain ⟨v, l, xs, hv, -, -, k9, -, -⟩ := h.row
                    obtain ⟨rfl, rfl, rfl⟩ := k9 q9
                    obtain ⟨ga, cap, rfl, -, -⟩ := World.ownsRow.form hv.2 (by omega)
                    go_simp
                    exact hK _ _ ⟨b0, b1, b2, b3, b4, b5, b6, b7, b8, b9, true, b11, b12, _, _, _, _, _, _, _, _, _, _, _, _, rfl, rfl, { h with f10 := fun _ => rfl, d10 := fun _ => q9, d12 := fun hb => ⟨rfl, (h.d12 hb).2⟩ }⟩
                  | 11, ho, hl, hd =>
                    obtain rfl := Option.some.inj ho
                    obtain rfl : b11 = false := hl
                    go_simp
                    exact hK _ _ ⟨b0, b1, b2, b3, b4, b5, b6, b7, b8, b9, b10, true, b12, _, _, _, _, _, _, _, _, _, _, _, _, rfl, rfl, h.op11⟩
                  | 12, ho, hl, hd =>
                    obtain rfl := Option.some.inj ho
                    obtain rfl : b12 = false := hl
                    have q10 : b10 = true := hd ⟨10, .data⟩ (by simp) rfl
                    subst q10
                    have q11 : b11 = true := hd ⟨11, .data⟩ (by simp) rfl
                    subst q11
                    obtain ⟨g, rfl, hB⟩ := h.blk
                    obtain rfl := h.f10 rfl
                    rw [if_pos (by rfl)]
                    refine wp_store_row 26 _ _ (by rfl) g (rowM ((bl : Int) * f) u74) (by rfl) (by rfl) 26 rowZ hB info_rule (by rfl) ?_ ?_
                    · obtain ⟨v, l, xs, hv, -, -, k9, -, -⟩ := h.row
                      obtain ⟨rfl, -, -⟩ := k9 (h.d10 rfl)
                      rcases hv.2.2 with ⟨rfl, -⟩ | ⟨_, _, _, rfl, -⟩ <;> simp [Value.oneCell']
                    exact hK _ _ ⟨b0, b1, b2, b3, b4, b5, b6, b7, b8, b9, true, true, true, _, _, _, _, _, _, _, _, _, _, _, _, rfl, rfl, h.op12⟩
                  | i + 13, ho, hl, hd => simp at ho
                case fin =>
                  rintro listed a' w' ⟨b0, b1, b2, b3, b4, b5, b6, b7, b8, b9, b10, b11, b12, u65, u66, u67, u68, u69, u70, u71, u72, u73, u74, u75, u13, rfl, rfl, h⟩ hr
                  obtain rfl : b0 = true := ready_nil hr (i := 0) rfl (by simp)
                  obtain rfl : b1 = true := ready_nil hr (i := 1) rfl (by simp)
                  obtain rfl : b2 = true := ready_nil hr (i := 2) rfl (by simp)
                  obtain rfl : b3 = true := ready_nil hr (i := 3) rfl (by simp)
                  obtain rfl : b4 = true := ready_nil hr (i := 4) rfl (by simp)
                  obtain rfl : b5 = true := ready_nil hr (i := 5) rfl (by simp)
                  obtain rfl : b6 = true := ready_nil hr (i := 6) rfl (by simp)
                  obtain rfl : b7 = true := ready_nil hr (i := 7) rfl (by simp)
                  obtain rfl : b8 = true := ready_nil hr (i := 8) rfl (by simp)
                  obtain rfl : b9 = true := ready_nil hr (i := 9) rfl (by simp)
                  obtain rfl : b10 = true := ready_nil hr (i := 10) rfl (by simp)
                  obtain rfl : b11 = true := ready_nil hr (i := 11) rfl (by simp)
                  obtain rfl : b12 = true := ready_nil hr (i := 12) rfl (by simp)
                  clear hr
                  obtain ⟨g13, ga, cap, rfl, rfl, hg, hne, hB, hS, hbX⟩ := h.done (GX.out.all64) (by omega)
                  have d5 := (hbX.cell (World.block_lt_of_cell? _ _ c5)).trans c5
                  have hbW := bel_trans HBX0.out hbX
                  have hwx := HWX.out.ext hbX
                  have hs1x := HS1.out
                  have hs1 := HS1.out.ext hbX
                  have fbx := FBO.out.bel hbX
                  have hgw : g13 < w'.heap.size := hB.lt
                  have hvl := hwx.small
                  have hvc := hwx.cap
                  have hvm := hwx.max
                  have hg12X := FBO.out.lt
                  have hX3 : w3.heap.size ≤ X.heap.size := HBX0.out.size
                  have hlW := hwx.len
                  have hw36 : bl ≤ 36 := by
                    have h1 := HQ1.out.1.wlen HQ1.out.2
                    have h2 := HQ1.out.1.len
                    omega
                  clear h c0 c1' c2 c3 c4 c5 c6
                  have HB := Lib.hid hB; clear hB
                  have HS := Lib.hid hS; clear hS
                  have HBX := Lib.hid hbX; clear hbX
                  have HBW := Lib.hid hbW; clear hbW
                  have HWX := Lib.hid hwx; clear hwx
                  have HS1X := Lib.hid hs1x; clear hs1x
                  have HS1 := Lib.hid hs1; clear hs1
                  have FBX := Lib.hid fbx; clear fbx
                  have HLW := Lib.hid hlW; clear hlW
                  go_wp2_with fail
                  clear d5
                  go_loopw [14, 79] (fun u t wr => ∃ (i : Nat) (zb : Bool) (wv : Value), i ≤ bl ∧ u = .bool zb ∧ t = .int .i64 (i : Int) ∧ zb = ((sumR r).w.take i).any (fun x => decide (1048576 < x * f)) ∧ Blk wr g13 26 #[.bool false, .slice none 0 0, .bool true, .int .i64 ((bl : Int) * f), .slice (some ⟨ga, 0, none⟩) (bl + 2) cap, wv] ∧ OwnI wr w'.heap.size wv i (((sumR r).w.take i).map fun x => min (x * f) 1048576) ∧ Kept [g13] w' wr) (fun _ t _ => bl - (intOf t).toNat)
                  case atStart => exact ⟨0, false, _, Nat.zero_le _, rfl, rfl, by simp, HB.out, OwnI.nil _ _, Kept.refl _ _⟩
                  case round =>
                    obtain ⟨i, zb, wv, hi, rfl, rfl, hzb, bo, ow, hkp⟩ := hrel
                    obtain ⟨o0, o1, o2, o3, o4, o5, o6⟩ := rcells bo
                    have hsB : w'.heap.size ≤ wr.heap.size := hkp.size
                    by_cases hlt2 : i < bl
                    · obtain ⟨x, hx, -⟩ := HWX.out.drop hlt2
                      obtain ⟨xb, xo, rfl, lx, cx0, _⟩ := HWX.out.int hx
                      have hxlt : xb < X.heap.size := by
                        obtain ⟨_, _, e2, l2, _, _⟩ := HWXX.out.int hx
                        cases e2; exact l2
                      have cx := hkp.cell cx0 (by simp; omega)
                      have hx0 := HQ1.out.1.w0 HQ1.out.2 x (List.mem_of_getElem? hx)
                      have hm1 : 0 ≤ x * f := Int.mul_nonneg hx0.1 (by omega)
                      have hm2 : x * f ≤ 1048576 * 9 := Int.mul_le_mul hx0.2 f2 (by omega) (by omega)
                      have wx : IntKind.i64.wrap (x * f) = x * f := IntWalk.i64_in _ (by omega)
                      have i0 : (0 : Int) ≤ (i : Int) := by omega
                      have i1 : (i : Int) < (bl : Int) := by omega
                      have e1 := take_snoc' hx
                      have hz2 : (zb || decide (1048576 < x * f)) = ((sumR r).w.take (i + 1)).any (fun x => decide (1048576 < x * f)) := by rw [e1, List.any_append, ← hzb]; simp
                      have e3 : ((sumR r).w.take (i + 1)).map (fun x => min (x * f) 1048576) = ((sumR r).w.take i).map (fun x => min (x * f) 1048576) ++ [min (x * f) 1048576] := by rw [e1]; simp
                      clear e1 cx0
                      obtain ⟨v1, w6, hrun, own1, hg1, hat1⟩ := app1 ow (min (x * f) 1048576) (by omega) hsB 24
                      obtain ⟨g1, cap1, rfl, hgb1, hgl1⟩ := World.ownsRow.form own1.2 (by omega)
                      have hro : some g13 ≠ wv.ownBlock := fun e => by have := (ow.2.lt _ e.symm).1; omega
                      have o5' := (hg1.cell_far ⟨g13, 5, none⟩ o6 hro).trans o5
                      have f5 := (hg1.frozen_far ⟨g13, 5, none⟩ o6 hro).trans (bo.frozen 5)
                      have bo' : Blk (w6.setCell ⟨g13, 5, none⟩ (.slice (some ⟨g1, 0, none⟩) (i + 1) cap1)) g13 26 #[.bool false, .slice none 0 0, .bool true, .int .i64 ((bl : Int) * f), .slice (some ⟨ga, 0, none⟩) (bl + 2) cap, .slice (some ⟨g1, 0, none⟩) (i + 1) cap1] := (bo.grown hg1 hro).set_ 5 _
                      have ow' := own1.keptS ((Kept.refl [g13] w6).set (p := ⟨g13, 5, none⟩) (.inl (by simp)) (.slice (some ⟨g1, 0, none⟩) (i + 1) cap1)) (fun z hz hm => by have := (own1.2.lt z hz).1; simp at hm; omega)
                      have kp' := (hkp.grown hg1 (fun z hz => .inr (ow.2.lt z hz).1)).set (p := ⟨g13, 5, none⟩) (.inl (by simp)) (.slice (some ⟨g1, 0, none⟩) (i + 1) cap1)
                      have BO := Lib.hid bo; clear bo
                      have OW := Lib.hid ow; clear ow
                      have HKP := Lib.hid hkp; clear hkp
                      have HRUN := Lib.hid hrun; clear hrun
                      have OWN1 := Lib.hid own1; clear own1
                      have HG1 := Lib.hid hg1; clear hg1
                      have HAT1 := Lib.hid hat1; clear hat1
                      have HRO := Lib.hid hro; clear hro
                      have BO' := Lib.hid bo'; clear bo'
                      have OW' := Lib.hid ow'; clear ow'
                      have KP' := Lib.hid kp'; clear kp'
                      have E3 := Lib.hid e3; clear e3
                      have HZB := Lib.hid hzb; clear hzb
                      have HZ2 := Lib.hid hz2; clear hz2
                      have HX := Lib.hid hx; clear hx
                      cases zb with
                      | true =>
                        go_wp2_with (at_builtin; refine wpList_append_run rfl _ _ _ rfl _ _ rfl rfl _ _ HRUN.out ?_)
                        go_roundw
                        case rel => exact ⟨i + 1, true, _, by omega, rfl, by go_num, by rw [← HZ2.out]; rfl, BO'.out, by rw [E3.out]; exact OW'.out, KP'.out⟩
                        case measure => simp [intOf]; omega
                      | false =>
                        go_wp2_with (at_builtin; refine wpList_append_run rfl _ _ _ rfl _ _ rfl rfl _ _ HRUN.out ?_)
                        go_roundw
                        case rel => exact ⟨i + 1, decide (1048576 < x * f), _, by omega, rfl, by go_num, by rw [← HZ2.out]; rfl, BO'.out, by rw [E3.out]; exact OW'.out, KP'.out⟩
                        case measure => simp [intOf]; omega
                    · obtain rfl : bl = i := by omega
                      rw [List.take_of_length_le (by rw [← HLW.out]; omega)] at hzb ow
                      have hwle : ∀ x ∈ (sumR r).w, 0 ≤ x ∧ x ≤ 1048576 := HQ1.out.1.w0 HQ1.out.2
                      have hy64 : ∀ y ∈ ((sumR r).w.map fun x => min (x * f) 1048576) ++ [7, 7], I64 y := fun y hy => by
                        rcases List.mem_append.1 hy with hy | hy
                        · obtain ⟨x, hx, rfl⟩ := List.mem_map.1 hy
                          have h1 := hwle x hx
                          have h2 : 0 ≤ x * f := Int.mul_nonneg h1.1 (by omega)
                          unfold I64; omega
                        · simp at hy; subst hy; simp [I64]
                      have hblk7 := Blk.new wr 3 #[.int .i64 7, .int .i64 7]
                      have hls : bl + 2 ≤ 17592186044416 := by omega
                      have hbs : w'.heap.size ≤ (wr.alloc (.cells #[.int .i64 7, .int .i64 7] 3)).heap.size := Nat.le_trans hsB (bel_alloc _ _).size
                      obtain ⟨v1, w6, hrun, own1, hg1, hat1⟩ := appS (ow.bel (bel_alloc wr (.cells #[.int .i64 7, .int .i64 7] 3))) (sl_ints (l := 2) [7, 7] hblk7 rfl (by omega) (by simp [I64])) hls hbs 24
                      obtain ⟨g1, cap1, rfl, hgb1, hgl1⟩ := World.ownsRow.form own1.2 (by omega)
                      have hro : some g13 ≠ wv.ownBlock := fun e => by have := (ow.2.lt _ e.symm).1; omega
                      have bo2 := (bo.alloc (.cells #[.int .i64 7, .int .i64 7] 3)).grown hg1 hro
                      have kp2 := (hkp.alloc (.cells #[.int .i64 7, .int .i64 7] 3)).grown hg1 (fun z hz => .inr (ow.2.lt z hz).1)
                      obtain ⟨n0, n1, n2, n3, n4, n5, n6⟩ := rcells bo2
                      have m5 := bo2.frozen 5
                      have m3 := bo2.frozen 3
                      have wz7 : IntKind.i64.wrap ((bl : Int) * f + 7) = (bl : Int) * f + 7 := IntWalk.i64_in _ (by omega)
                      have k7 : Kept [g13] w6 ((w6.setCell ⟨g13, 5, none⟩ (.slice (some ⟨g1, 0, none⟩) (bl + 2) cap1)).setCell ⟨g13, 3, none⟩ (.int .i64 ((bl : Int) * f + 7))) := ((Kept.refl [g13] w6).set (.inl (by simp)) _).set (.inl (by simp)) _
                      have bo7 : Blk ((w6.setCell ⟨g13, 5, none⟩ (.slice (some ⟨g1, 0, none⟩) (bl + 2) cap1)).setCell ⟨g13, 3, none⟩ (.int .i64 ((bl : Int) * f + 7))) g13 26 #[.bool false, .slice none 0 0, .bool true, .int .i64 ((bl : Int) * f + 7), .slice (some ⟨ga, 0, none⟩) (bl + 2) cap, .slice (some ⟨g1, 0, none⟩) (bl + 2) cap1] := (bo2.set_ 5 _).set_ 3 _
                      have own7 := own1.keptS k7 (fun z hz hm => by have := (own1.2.lt z hz).1; simp at hm; omega)
                      obtain ⟨_, _, e7, sl7⟩ := own7.sl hls hy64
                      cases e7
                      have kp7 := kp2.trans k7
                      have fb7 := kp7.blk FBX.out (by simp; omega)
                      obtain ⟨t0, t1', t2', t3', t4', t5', t6'⟩ := rcells fb7
                      have hb7 := Kept.below HBX.out kp7 HBX.out.size (fun z hz => by simp at hz; omega)
                      have sb7 := HS.out.keptM kp7 (fun _ ad e hm => by cases e; simp at hm; exact hne hm)
                      have s17 := HS1.out.keptM kp7 (fun h0 ad e hm => by
                        have := HS1X.out.blk_lt h0 e
                        simp at hm; omega)
                      have hsz7 := kp7.size
                      clear o0 o1 o2 o3 o4
                      have BO := Lib.hid bo; clear bo
                      have OW := Lib.hid ow; clear ow
                      have HKP := Lib.hid hkp; clear hkp
                      have HRUN := Lib.hid hrun; clear hrun
                      have OWN1 := Lib.hid own1; clear own1
                      have HG1 := Lib.hid hg1; clear hg1
                      have HAT1 := Lib.hid hat1; clear hat1
                      have HRO := Lib.hid hro; clear hro
                      have BO2 := Lib.hid bo2; clear bo2
                      have KP2 := Lib.hid kp2; clear kp2
                      have HWLE := Lib.hid hwle; clear hwle
                      have HY64 := Lib.hid hy64; clear hy64
                      have HBLK7 := Lib.hid hblk7; clear hblk7
                      have HZB := Lib.hid hzb; clear hzb
                      have K7 := Lib.hid k7; clear k7
                      have BO7 := Lib.hid bo7; clear bo7
                      have OWN7 := Lib.hid own7; clear own7
                      have SL7 := Lib.hid sl7; clear sl7
                      have KP7 := Lib.hid kp7; clear kp7
                      have FB7 := Lib.hid fb7; clear fb7
                      have HB7 := Lib.hid hb7; clear hb7
                      have SB7 := Lib.hid sb7; clear sb7
                      have S17 := Lib.hid s17; clear s17
                      go_wp2_with (at_builtin; refine wpList_append_run rfl _ _ _ rfl _ _ rfl rfl _ _ HRUN.out ?_)
                      generalize ((w6.setCell ⟨g13, 5, none⟩ (.slice (some ⟨g1, 0, none⟩) (bl + 2) cap1)).setCell ⟨g13, 3, none⟩ (.int .i64 ((bl : Int) * f + 7))) = W7 at *
                      go_fit (CX.out _ HB7.out); rintro e w8 ⟨rfl, hb8⟩
                      have bo8 := BO7.out.bel hb8
                      have HB8 := Lib.hid (bel_trans HBX0.out (bel_trans HB7.out hb8))
                      have sb8 := SB7.out.ext hb8
                      have sl8 := SL7.out.ext hb8
                      have s18 := S17.out.ext hb8
                      clear hb8 n0 n1 n2 n3 n4 n5 m5 m3 t0 t1' t2' t3' t4' t5' t6'
                      obtain ⟨n0, n1, n2, n3, n4, n5, n7⟩ := rcells bo8
                      have hww : (want != want) = false := by simp
                      cases zb with
                      | true =>
                        have BO8 := Lib.hid bo8; clear bo8
                        have SB8 := Lib.hid sb8; clear sb8
                        have SL8 := Lib.hid sl8; clear sl8
                        have S18 := Lib.hid s18; clear s18
                        go_wp2_with fail
                        go_roundw
                        case rel => exact ⟨j + 1, by omega, by go_num, HB8.out⟩
                        case measure => simp [intOf]; omega
                      | false =>
                        have hmq : moreR (sumR r) f = ⟨false, [], true, (bl : Int) * f + 7, r.body ++ [1, -1], ((sumR r).w.map fun x => min (x * f) 1048576) ++ [7, 7]⟩ := by unfold moreR; rw [HQB.out, HQY.out]
                        have hmw := more_body HQ1.out.1 HQ1.out.2 f f1 HZB.out.symm m
                        rw [hmq, HBQ.out] at hmw
                        have cM := bodyOut_any (⟨false, [], true, (bl : Int) * f + 7, r.body ++ [1, -1], ((sumR r).w.map fun x => min (x * f) 1048576) ++ [7, 7]⟩ : GRule) none 0 0 (some ⟨ga, 0, none⟩) (bl + 2) cap (some ⟨g1, 0, none⟩) (bl + 2) cap1 A1 l1 c1 m w8 ⟨SlIs.nil _ _, show I64 ((bl : Int) * f + 7) by unfold I64; omega, sb8, sl8⟩ s18
                        rw [hmw] at cM
                        have BO8 := Lib.hid bo8; clear bo8
                        have SB8 := Lib.hid sb8; clear sb8
                        have SL8 := Lib.hid sl8; clear sl8
                        have S18 := Lib.hid s18; clear s18
                        have CM := Lib.hid cM; clear cM
                        have HMQ := Lib.hid hmq; clear hmq
                        have HMW := Lib.hid hmw; clear hmw
                        go_wp2_with fail
                        go_fit CM.out; rintro e w9 ⟨rfl, hb9⟩
                        have HB9 := Lib.hid (bel_trans HB8.out hb9)
                        clear hb9
                        go_wp2_with fail
                        go_roundw
                        case rel => exact ⟨j + 1, by omega, by go_num, HB9.out⟩
                        case measure => simp [intOf]; omega
        · have HB9 := Lib.hid (bel_trans HB3.out hb)
          clear hb
          go_wp2_with fail
          go_fit (CA.out _); rintro e wa ⟨rfl, hba⟩
          have HBA := Lib.hid (bel_trans HB9.out hba)
          clear hba
          go_wp2_with fail
          go_ret
          exact ⟨rfl, HBA.out⟩
    · generalize validE p = v at *
      have q1 : (v != 0) = true := by simpa using hv
      have HF := Lib.hid hf; clear hf
      have HV := Lib.hid hv; clear hv
      have CF := Lib.hid cF; clear cF
      have CV := Lib.hid cV; clear cV
      have CA := Lib.hid cA; clear cA
      have HP := Lib.hid hp; clear hp
      go_enter Try.func8, Try.ntmps8
      go_wp2_with fail
      go_fit (CF.out _ (bel_alloc _ _)); rintro e w1 ⟨rfl, hb1⟩
      have hx1 := (Blk.new w 36 #[.int .i64 p.n, .slice nA nl nc, .slice sA sl sc, .slice rA rl rc, .slice mA ml mc]).bel hb1
      obtain ⟨p0, p1, p2, p3, p4, p5⟩ := pcells hx1
      have HB1 := Lib.hid (bel_trans (bel_alloc _ _) hb1)
      clear hb1
      have HX1 := Lib.hid hx1; clear hx1
      go_wp2_with fail
      go_fit (CV.out _ HB1.out); rintro e w2 ⟨rfl, hb2⟩
      have HB2 := Lib.hid (bel_trans HB1.out hb2)
      clear hb2
      go_wp2_with fail
      go_fit (CA.out _); rintro e w3 ⟨rfl, hb3⟩
      have HB3 := Lib.hid (bel_trans HB2.out hb3)
      clear hb3
      go_wp2_with fail
      go_ret
      exact ⟨rfl, HB3.out⟩
end Go.Proofs.Ytcbkkjcleiibfaa

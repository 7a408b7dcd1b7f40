/- The law ReductModel: it answers true and changes nothing that was there. -/
import Derived.Test.YtcbkkjcleiibfaaMdp
import Derived.Deep.RegionHeld3
namespace Go.Proofs.Ytcbkkjcleiibfaa
open Go.RowKit

set_option maxRecDepth 100000 in
set_option maxHeartbeats 4000000 in
theorem reductModel_any (p : GProg) (nA : Option Addr) (nl nc : Nat) (sA : Option Addr) (sl sc : Nat) (rA : Option Addr) (rl rc : Nat) (mA : Option Addr) (ml mc : Nat) (a b : Int) (w : World) (hp : ProgIn w p nA nl nc sA sl sc rA rl rc mA ml mc) (ha0 : 0 ≤ a) (ha1 : a ≤ 65535) (hb0 : 0 ≤ b) (hb1 : b ≤ 65535) :
    Calls Try.prog 4 #[.agg #[.int .i64 p.n, .slice nA nl nc, .slice sA sl sc, .slice rA rl rc, .slice mA ml mc], .int .u16 a, .int .u16 b] w fun e w' => e = .returned (.bool true) ∧ Below w.heap.size w w' := by
  have cF := fun W (hb : Below w.heap.size w W) => few_any p nA nl nc sA sl sc rA rl rc mA ml mc W (hp.ext hb)
  have cV := fun W (hb : Below w.heap.size w W) => valid_any p nA nl nc sA sl sc rA rl rc mA ml mc W (hp.ext hb)
  have cA := awake_any
  cases hf : fewB p with
  | false =>
    rw [hf] at cF
    have HF := Lib.hid hf; clear hf
    have CF := Lib.hid cF; clear cF
    have CV := Lib.hid cV; clear cV
    have CA := Lib.hid cA; clear cA
    have HP := Lib.hid hp; clear hp
    go_enter Try.func4, Try.ntmps4
    go_wp2_with fail
    go_fit (CF.out _ (bel_alloc _ _)); rintro e w1 ⟨rfl, hb1⟩
    have HB1 := Lib.hid (bel_trans (bel_alloc _ _) hb1)
    clear hb1
    go_wp2_with fail
    go_fit (CA.out _); rintro e w2 ⟨rfl, hb2⟩
    have HB2 := Lib.hid (bel_trans HB1.out hb2)
    clear hb2
    go_wp2_with fail
    go_ret
    exact ⟨rfl, HB2.out⟩
  | true =>
    rw [hf] at cF
    by_cases hv : validE p = 0
    · have hN2 := few_n hf
      have hN0 := valid_n hv
      have hN3 : p.n ≤ 4000 := by omega
      have hma := subset_inc p.n a hN0
      have hkb := subset_inc p.n b hN0
      have L := Lib.hid (model_law hf hv hma hkb)
      rw [hv] at cV
      have cS1 := fun W => subset_any p.n a W hN3 hN0 ha0 ha1
      have cS2 := fun W => subset_any p.n b W hN3 hN0 hb0 hb1
      generalize hm' : subsetL p.n a = m at *
      generalize hk' : subsetL p.n b = k at *
      clear hm' hk'
      have HF := Lib.hid hf; clear hf
      have HV := Lib.hid hv; clear hv
      have CF := Lib.hid cF; clear cF
      have CV := Lib.hid cV; clear cV
      have CA := Lib.hid cA; clear cA
      have HP := Lib.hid hp; clear hp
      have HMA := Lib.hid hma; clear hma
      have HKB := Lib.hid hkb; clear hkb
      have CS1 := Lib.hid cS1; clear cS1
      have CS2 := Lib.hid cS2; clear cS2
      go_enter Try.func4, Try.ntmps4
      go_wp2_with fail
      go_fit (CF.out _ (bel_alloc _ _)); rintro e w1 ⟨rfl, hb1⟩
      have hx1 := (Blk.new w 36 #[.int .i64 p.n, .slice nA nl nc, .slice sA sl sc, .slice rA rl rc, .slice mA ml mc]).bel hb1
      obtain ⟨p0, p1, p2, p3, p4, p5⟩ := pcells hx1
      have HB1 := Lib.hid (bel_trans (bel_alloc _ _) hb1)
      clear hb1
      have HX1 := Lib.hid hx1; clear hx1
      go_wp2_with fail
      go_fit (CV.out _ HB1.out); rintro e w2 ⟨rfl, hb2⟩
      have hx2 := HX1.out.bel hb2
      clear p0 p1 p2 p3 p4 p5
      obtain ⟨p0, p1, p2, p3, p4, p5⟩ := pcells hx2
      have HB2 := Lib.hid (bel_trans HB1.out hb2)
      clear hb2
      have HX2 := Lib.hid hx2; clear hx2
      go_wp2_with fail
      have hmark : True := trivial
      go_region_held3 (fun w' => w'.cell? ⟨w.heap.size, 0, none⟩ = some (.int .i64 p.n) ∧ Below w2.heap.size w2 w') (first | exact ⟨by simpa using p0, (Below.refl _ _).drew⟩ | exact ⟨p0'', HB4⟩ | exact ⟨p0', HB3⟩ | go_keep)
        (first
        | (go_at_call 18; clear hmark; refine (CS1.out _).mono ?_; rintro e w3 ⟨A1, l1, c1, rfl, hs1, hb3⟩; have HB3 : Below w2.heap.size w2 w3 := bel_trans (by first | assumption | exact (Below.refl _ _).drew) hb3; have HS1 := Lib.hid hs1; have p0' := (HB3.cell (p := ⟨w.heap.size, 0, none⟩) p5).trans p0; clear hs1)
        | (go_at_call 18; refine (CS2.out _).mono ?_; rintro e w4 ⟨A2, l2, c2, rfl, hs2, hb4⟩; have HB4 : Below w2.heap.size w2 w4 := bel_trans (by first | assumption | exact (Below.refl _ _).drew) hb4; have HS2 := Lib.hid hs2; have p0'' := (HB4.cell (p := ⟨w.heap.size, 0, none⟩) p5).trans p0; clear hs2))
      have hs1 := HS1.out.ext hb4
      have hx4 := HX2.out.bel HB4
      have hp4 := HP.out.ext (bel_trans HB2.out HB4)
      have HBz := Lib.hid (bel_trans HB2.out HB4)
      clear p0 p0' p0'' p1 p2 p3 p4 p5 HB3 HB4 hb3 hb4 HS1
      obtain ⟨p0, p1, p2, p3, p4, p5⟩ := pcells hx4
      have HS1 := Lib.hid hs1; clear hs1
      have HX4 := Lib.hid hx4; clear hx4
      have HP4 := Lib.hid hp4; clear hp4
      go_wp2_with fail
      go_fit (reduct_any p nA nl nc sA sl sc rA rl rc mA ml mc A1 l1 c1 m _ HP4.out HS1.out L.out.c1); rintro e w5 ⟨gA, gl, gc, rfl, hg, hb5⟩
      have hs1 := HS1.out.ext hb5
      have hs2 := HS2.out.ext hb5
      have hx5 := HX4.out.bel hb5
      have hp5 := HP4.out.ext hb5
      have HB5 := Lib.hid (bel_trans HBz.out hb5)
      have hgm := hg.max
      have hgl := hg.len
      clear p0 p1 p2 p3 p4 p5 hb5 HS1 HS2
      obtain ⟨p0, p1, p2, p3, p4, p5⟩ := pcells hx5
      have HS1 := Lib.hid hs1; clear hs1
      have HS2 := Lib.hid hs2; clear hs2
      have HX5 := Lib.hid hx5; clear hx5
      have HP5 := Lib.hid hp5; clear hp5
      have HG := Lib.hid hg; clear hg
      have HGL := Lib.hid hgl; clear hgl
      have HGM := Lib.hid hgm; clear hgm
      go_wp2_with fail
      go_fit (with_int gA gl gc (reductL p.rules m) p.n _ HG.out hN0 hN3); rintro e w6 ⟨qA, ql, qc, rfl, hq, hb6⟩
      have hs1 := HS1.out.ext hb6
      have hs2 := HS2.out.ext hb6
      have hg6 := HG.out.ext hb6
      have hx6 := HX5.out.bel hb6
      have hp6 := HP5.out.ext hb6
      have HB6 := Lib.hid (bel_trans HB5.out hb6)
      clear p0 p1 p2 p3 p4 p5 hb6 HS1 HS2
      obtain ⟨p0, p1, p2, p3, p4, p5⟩ := pcells hx6
      have HS1 := Lib.hid hs1; clear hs1
      have HS2 := Lib.hid hs2; clear hs2
      have HG6 := Lib.hid hg6; clear hg6
      have HX6 := Lib.hid hx6; clear hx6
      have HP6 := Lib.hid hp6; clear hp6
      have HQ := Lib.hid hq; clear hq
      go_wp2_with fail
      go_fit (models_ok p nA nl nc sA sl sc rA rl rc mA ml mc A1 l1 c1 m _ (HP6.out.ext (bel_alloc _ _)) (HS1.out.ext (bel_alloc _ _)) L.out.c1); rintro e w7 ⟨rfl, hb7⟩
      have hy7 := (Blk.new w6 36 #[.int .i64 p.n, .slice qA ql qc, .slice none 0 0, .slice gA gl gc, .slice none 0 0]).bel hb7
      have hb7' := bel_trans (bel_alloc _ _) hb7
      have hs1 := HS1.out.ext hb7'
      have hs2 := HS2.out.ext hb7'
      have hg7 := HG6.out.ext hb7'
      have hq7 := HQ.out.ext hb7'
      have hx7 := HX6.out.bel hb7'
      have HB7 := Lib.hid (bel_trans HB6.out hb7')
      clear p0 p1 p2 p3 p4 p5 hb7 hb7' HS1 HS2
      generalize w6.heap.size = g at *
      obtain ⟨y0, y1, y2, y3, y4, y5⟩ := pcells hy7
      have c7 := models_ok (withP p.n (reductL p.rules m)) qA ql qc none 0 0 gA gl gc none 0 0 A1 l1 c1 m w7 hq7 hs1 L.out.c2
      rw [L.out.e2] at c7
      generalize modelB p m = is at *
      have HS1 := Lib.hid hs1; clear hs1
      have HS2 := Lib.hid hs2; clear hs2
      have HG7 := Lib.hid hg7; clear hg7
      have HX7 := Lib.hid hx7; clear hx7
      have HY7 := Lib.hid hy7; clear hy7
      have HQ7 := Lib.hid hq7; clear hq7
      have C7 := Lib.hid c7; clear c7
      go_wp2_with fail
      go_fit C7.out; rintro e w8 ⟨rfl, hb8⟩
      have hs2 := HS2.out.ext hb8
      have hg8 := HG7.out.ext hb8
      have hq8 := HQ7.out.ext hb8
      have hx8 := HX7.out.bel hb8
      have hy8 := HY7.out.bel hb8
      have HB8 := Lib.hid (bel_trans HB7.out hb8)
      clear y0 y1 y2 y3 y4 y5 hb8 HS1 HS2
      have HS2 := Lib.hid hs2; clear hs2
      have HG8 := Lib.hid hg8; clear hg8
      have HQ8 := Lib.hid hq8; clear hq8
      have HX8 := Lib.hid hx8; clear hx8
      have HY8 := Lib.hid hy8; clear hy8
      have hbn : (is != is) = false := by simp
      go_wp2_with fail
      have hgm := HGM.out
      have hgc := HG.out.cap
      go_loopw [82] (fun t wr => ∃ j : Nat, j ≤ gl ∧ t = .int .i64 (j : Int) ∧ Below w8.heap.size w8 wr) (fun t _ => gl - (intOf t).toNat)
      case atStart => exact ⟨0, Nat.zero_le _, rfl, Below.refl _ _⟩
      case round =>
        obtain ⟨j, hj, rfl, hb⟩ := hrel
        have hgr := HG8.out.ext hb
        by_cases hlt : j < gl
        · obtain ⟨r, hri, -⟩ := hgr.drop hlt
          have hpos := L.out.pos r (List.mem_of_getElem? hri)
          have HGR := Lib.hid hgr
          clear HG HG6 HG7 HG8 hgr
          obtain ⟨bb, off, hA, hl', hc, bA, bl, bc, wA, wl, wc, rfl, hbl2, d0, d1, d2, d3, d4, d5, g1, g2, g3, g4⟩ := HGR.out.rule hri
          have t1 := g1.small
          have t2 := g3.small
          have t3 := g4.small
          have j0 : (0 : Int) ≤ (j : Int) := by omega
          have j1 : (j : Int) < (gl : Int) := by omega
          rw [hpos.1] at d0
          have HPS := Lib.hid hpos.2
          clear hpos
          have HBO := Lib.hid hb
          clear hb
          have HRI := Lib.hid hri; clear hri
          have G1 := Lib.hid g1; clear g1
          have G2 := Lib.hid g2; clear g2
          have G3 := Lib.hid g3; clear g3
          have G4 := Lib.hid g4; clear g4
          go_wp2_with fail
          obtain ⟨wo, rfl⟩ : ∃ wo : World, wo = wr := ⟨_, rfl⟩
          go_loopw [91] (fun t wr => ∃ i : Nat, i ≤ bl ∧ t = .int .i64 (i : Int) ∧ Below wo.heap.size wo wr) (fun t _ => bl - (intOf t).toNat)
          case atStart => exact ⟨0, Nat.zero_le _, rfl, bel_alloc _ _⟩
          case round =>
            obtain ⟨i, hi, rfl, hbi⟩ := hrel
            have hg3 := G3.out.ext hbi
            by_cases hlt2 : i < bl
            · obtain ⟨x, hxi⟩ : ∃ x, r.body[i]? = some x := ⟨_, List.getElem?_eq_getElem (by have := G3.out.len; omega)⟩
              obtain ⟨b3, o3, rfl, _, cx, _⟩ := hg3.int hxi
              have hx0 : 0 < x := HPS.out x (List.mem_of_getElem? hxi)
              have i0 : (0 : Int) ≤ (i : Int) := by omega
              have i1 : (i : Int) < (bl : Int) := by omega
              have HBI := Lib.hid hbi
              clear hbi
              have HXI := Lib.hid hxi; clear hxi
              have HG3 := Lib.hid hg3; clear hg3
              go_wp2_with fail
              go_roundw
              case rel => exact ⟨i + 1, by omega, by go_num, HBI.out⟩
              case measure => simp [intOf]; omega
            · have HBI := Lib.hid hbi
              clear hbi hg3
              go_wp2_with fail
              go_roundw
              case rel => exact ⟨j + 1, by omega, by go_num, bel_trans HBO.out HBI.out⟩
              case measure => simp [intOf]; omega
        · have hs2 := HS2.out.ext hb
          have hq9 := HQ8.out.ext hb
          have hx9 := HX8.out.bel hb
          have hy9 := HY8.out.bel hb
          have HB9 := Lib.hid (bel_trans HB8.out hb)
          clear hb hgr HS2
          obtain ⟨y0, y1, y2, y3, y4, y5⟩ := pcells hy9
          have cq := fun W hq hs => models_ok (withP p.n (reductL p.rules m)) qA ql qc none 0 0 gA gl gc none 0 0 A2 l2 c2 k W hq hs L.out.c3
          have cz := fun zA zl zc aA al ac W hq hs => models_ok (withP p.n (reductL (reductL p.rules m) k)) zA zl zc none 0 0 aA al ac none 0 0 A2 l2 c2 k W hq hs L.out.c4
          simp only [L.out.e4] at cz
          generalize modelB (withP p.n (reductL p.rules m)) k = z at cq cz
          have HGL2 := Lib.hid (HG.out.len)
          have HS2 := Lib.hid hs2; clear hs2
          have HQ9 := Lib.hid hq9; clear hq9
          have HX9 := Lib.hid hx9; clear hx9
          have HY9 := Lib.hid hy9; clear hy9
          have CQ := Lib.hid cq; clear cq
          have CZ := Lib.hid cz; clear cz
          go_wp2_with fail
          go_fit (reduct_any (withP p.n (reductL p.rules m)) qA ql qc none 0 0 gA gl gc none 0 0 A2 l2 c2 k _ HQ9.out HS2.out L.out.c3); rintro e wa ⟨aA, al, ac, rfl, haa, hba⟩
          have hal : al = gl := by rw [haa.len, HGL2.out]; exact L.out.len
          have hs2 := HS2.out.ext hba
          have hqa := HQ9.out.ext hba
          have hxa := HX9.out.bel hba
          have hya := HY9.out.bel hba
          have HBA := Lib.hid (bel_trans HB9.out hba)
          clear y0 y1 y2 y3 y4 y5 hba HS2
          obtain ⟨y0, y1, y2, y3, y4, y5⟩ := pcells hya
          have HS2 := Lib.hid hs2; clear hs2
          have HQA := Lib.hid hqa; clear hqa
          have HXA := Lib.hid hxa; clear hxa
          have HYA := Lib.hid hya; clear hya
          have HAA := Lib.hid haa; clear haa
          have HAL := Lib.hid hal; clear hal
          go_wp2_with fail
          go_fit (CQ.out _ HQA.out HS2.out); rintro e wb ⟨rfl, hbb⟩
          have hs2 := HS2.out.ext hbb
          have haa2 := HAA.out.ext hbb
          have hxb := HXA.out.bel hbb
          have HBB := Lib.hid (bel_trans HBA.out hbb)
          clear y0 y1 y2 y3 y4 y5 hbb HS2
          obtain ⟨p0, p1, p2, p3, p4, p5⟩ := pcells hxb
          have HS2 := Lib.hid hs2; clear hs2
          have HXB := Lib.hid hxb; clear hxb
          have HAA2 := Lib.hid haa2; clear haa2
          go_wp2_with fail
          go_fit (with_int aA al ac (reductL (reductL p.rules m) k) p.n _ HAA2.out hN0 hN3); rintro e wc ⟨zA, zl, zc, rfl, hzz, hbc⟩
          have hs2 := HS2.out.ext hbc
          have HBC := Lib.hid (bel_trans HBB.out hbc)
          clear p0 p1 p2 p3 p4 p5 hbc HS2
          have HS2 := Lib.hid hs2; clear hs2
          have HZZ := Lib.hid hzz; clear hzz
          go_wp2_with fail
          go_fit (CZ.out _ _ _ _ _ _ _ HZZ.out HS2.out); rintro e wd ⟨rfl, hbd⟩
          have HBD := Lib.hid (bel_trans HBC.out hbd)
          clear hbd
          have hzn : (z == z) = true := by simp
          have hal := HAL.out
          subst hal
          go_wp2_with fail
          go_fit (CA.out _); rintro e we ⟨rfl, hbe⟩
          have HBE := Lib.hid (bel_trans HBD.out hbe)
          clear hbe
          go_wp2_with fail
          go_ret
          exact ⟨rfl, HBE.out⟩
    · generalize validE p = v at *
      have q1 : (v != 0) = true := by simpa using hv
      have HF := Lib.hid hf; clear hf
      have HV := Lib.hid hv; clear hv
      have CF := Lib.hid cF; clear cF
      have CV := Lib.hid cV; clear cV
      have CA := Lib.hid cA; clear cA
      have HP := Lib.hid hp; clear hp
      go_enter Try.func4, Try.ntmps4
      go_wp2_with fail
      go_fit (CF.out _ (bel_alloc _ _)); rintro e w1 ⟨rfl, hb1⟩
      have hx1 := (Blk.new w 36 #[.int .i64 p.n, .slice nA nl nc, .slice sA sl sc, .slice rA rl rc, .slice mA ml mc]).bel hb1
      obtain ⟨p0, p1, p2, p3, p4, p5⟩ := pcells hx1
      have HB1 := Lib.hid (bel_trans (bel_alloc _ _) hb1)
      clear hb1
      have HX1 := Lib.hid hx1; clear hx1
      go_wp2_with fail
      go_fit (CV.out _ HB1.out); rintro e w2 ⟨rfl, hb2⟩
      have HB2 := Lib.hid (bel_trans HB1.out hb2)
      clear hb2
      go_wp2_with fail
      go_fit (CA.out _); rintro e w3 ⟨rfl, hb3⟩
      have HB3 := Lib.hid (bel_trans HB2.out hb3)
      clear hb3
      go_wp2_with fail
      go_ret
      exact ⟨rfl, HB3.out⟩
end Go.Proofs.Ytcbkkjcleiibfaa

/- The law ReductGrows: it answers true and changes nothing that was there. -/
import Derived.Test.YtcbkkjcleiibfaaCls
import Derived.Test.YtcbkkjcleiibfaaDfw
import Derived.Test.YtcbkkjcleiibfaaMdp
import Derived.Test.YtcbkkjcleiibfaaWr1
import Derived.Deep.RegionHeld3
namespace Go.Proofs.Ytcbkkjcleiibfaa
open Go.RowKit

theorem rounds_at {rs : List GRule} {N i : Nat} {x : Int} (h : (roundsL rs N)[i]? = some x) : i < N ∧ x = (stageF rs N N).1 i := by
  unfold roundsL at h
  rw [List.getElem?_map, Option.map_eq_some_iff] at h
  obtain ⟨j, hj, rfl⟩ := h
  obtain ⟨hl, e⟩ := List.getElem?_eq_some_iff.1 hj
  rw [List.length_range] at hl
  rw [List.getElem_range] at e
  subst e
  exact ⟨hl, rfl⟩
structure GrowLaw (p : GProg) (N : Nat) (sm lg : List Int) : Prop where
  n : p.n = (N : Int)
  wl : ∀ r ∈ p.rules, r.sum = true → r.w.length = r.body.length
  d : defB N (defL p.rules) = true
  dk : ∀ k, defB N ((defL p.rules).take k) = true
  body : ∀ r ∈ defL p.rules, bodyC r sm = true → bodyC r lg = true
  rnd : ∀ (k i : Nat) (x y : Int), (roundsL ((defL p.rules).take k) N)[i]? = some x → (roundsL (defL p.rules) N)[i]? = some y → 0 < x → y ≠ 0 ∧ y ≤ x
theorem grow_law {p : GProg} (hf : fewB p = true) (hv : validE p = 0) {sm lg : List Int} (hs : ∀ x ∈ sm, x ∈ lg) : ∃ N : Nat, GrowLaw p N sm lg := by
  have h0 := valid_n hv
  have h1 := few_n hf
  have h2 := few_head hf
  have hR := (validE_is hv).rules
  have hS := def_sum hf hv
  have hd := defL_def hR
  have hlen : (defL p.rules).length ≤ 40000 := by unfold defL; rw [List.length_map]; omega
  have e : p.n = ((p.n.toNat : Nat) : Int) := by omega
  refine ⟨p.n.toNat, e, fun r hr => (hR r hr).wlen, by rw [← e]; exact defB_of h0 (by omega) hlen hd, fun k => by rw [← e]; exact defB_of h0 (by omega) (by rw [List.length_take]; omega) fun r hr => hd r (List.mem_of_mem_take hr), fun r hr hb => ?_, fun k i x y hx hy hp => ?_⟩
  · rw [(hS r hr).bodyC] at hb ⊢
    exact body_mono (defR_is (hd r hr)) hs hb
  · obtain ⟨hi, ex⟩ := rounds_at hx
    obtain ⟨_, ey⟩ := rounds_at hy
    exact rounds_sub (by rw [← e]; exact hd) (fun r hr => List.mem_of_mem_take hr) hi ex ey hp

set_option maxRecDepth 100000 in
set_option maxHeartbeats 4000000 in
theorem reductGrows_any (p : GProg) (nA : Option Addr) (nl nc : Nat) (sA : Option Addr) (sl sc : Nat) (rA : Option Addr) (rl rc : Nat) (mA : Option Addr) (ml mc : Nat) (a b c : Int) (w : World) (hp : ProgIn w p nA nl nc sA sl sc rA rl rc mA ml mc) (ha0 : 0 ≤ a) (ha1 : a ≤ 65535) (hb0 : 0 ≤ b) (hb1 : b ≤ 65535) (hc0 : 0 ≤ c) (hc1 : c ≤ 255) :
    Calls Try.prog 7 #[.agg #[.int .i64 p.n, .slice nA nl nc, .slice sA sl sc, .slice rA rl rc, .slice mA ml mc], .int .u16 a, .int .u16 b, .int .u8 c] w fun e w' => e = .returned (.bool true) ∧ Below w.heap.size w w' := by
  have cF := fun W (hb : Below w.heap.size w W) => few_any p nA nl nc sA sl sc rA rl rc mA ml mc W (hp.ext hb)
  have cV := fun W (hb : Below w.heap.size w W) => valid_any p nA nl nc sA sl sc rA rl rc mA ml mc W (hp.ext hb)
  have cA := awake_any
  cases hf : fewB p with
  | false =>
    rw [hf] at cF
    have HF := Lib.hid hf; clear hf
    have CF := Lib.hid cF; clear cF
    have CV := Lib.hid cV; clear cV
    have CA := Lib.hid cA; clear cA
    have HP := Lib.hid hp; clear hp
    go_enter Try.func7, Try.ntmps7
    go_wp2_with fail
    go_fit (CF.out _ (bel_alloc _ _)); rintro e w1 ⟨rfl, hb1⟩
    have HB1 := Lib.hid (bel_trans (bel_alloc _ _) hb1)
    clear hb1
    go_wp2_with fail
    go_fit (CA.out _); rintro e w2 ⟨rfl, hb2⟩
    have HB2 := Lib.hid (bel_trans HB1.out hb2)
    clear hb2
    go_wp2_with fail
    go_ret
    exact ⟨rfl, HB2.out⟩
  | true =>
    rw [hf] at cF
    by_cases hv : validE p = 0
    · have hN2 := few_n hf
      have hN0 := valid_n hv
      have hN3 : p.n ≤ 4000 := by omega
      have hrl := (few_head hf).1
      rw [← hp.rules.len] at hrl
      obtain ⟨N, hL⟩ := grow_law hf hv (subset_or (n := p.n) ha0 ha1 hb0 hb1)
      have L := Lib.hid hL
      clear hL
      have ho := or_u16 ha0 ha1 hb0 hb1
      rw [hv] at cV
      have cS1 := fun W => subset_any p.n a W hN3 hN0 ha0 ha1
      have cS2 := fun W => subset_any p.n (Go.bits BinOp.or IntKind.u16 a b) W hN3 hN0 ho.1 ho.2
      generalize hm' : subsetL p.n a = m at *
      generalize hk' : subsetL p.n (Go.bits BinOp.or IntKind.u16 a b) = k at *
      clear hm' hk'
      have HF := Lib.hid hf; clear hf
      have HV := Lib.hid hv; clear hv
      have CF := Lib.hid cF; clear cF
      have CV := Lib.hid cV; clear cV
      have CA := Lib.hid cA; clear cA
      have HP := Lib.hid hp; clear hp
      have CS1 := Lib.hid cS1; clear cS1
      have CS2 := Lib.hid cS2; clear cS2
      have HO := Lib.hid ho; clear ho
      go_enter Try.func7, Try.ntmps7
      go_wp2_with fail
      go_fit (CF.out _ (bel_alloc _ _)); rintro e w1 ⟨rfl, hb1⟩
      have hx1 := (Blk.new w 36 #[.int .i64 p.n, .slice nA nl nc, .slice sA sl sc, .slice rA rl rc, .slice mA ml mc]).bel hb1
      obtain ⟨p0, p1, p2, p3, p4, p5⟩ := pcells hx1
      have HB1 := Lib.hid (bel_trans (bel_alloc _ _) hb1)
      clear hb1
      have HX1 := Lib.hid hx1; clear hx1
      go_wp2_with fail
      go_fit (CV.out _ HB1.out); rintro e w2 ⟨rfl, hb2⟩
      have hx2 := HX1.out.bel hb2
      clear p0 p1 p2 p3 p4 p5
      obtain ⟨p0, p1, p2, p3, p4, p5⟩ := pcells hx2
      have HB2 := Lib.hid (bel_trans HB1.out hb2)
      clear hb2
      have hp2 := HP.out.ext HB2.out
      have HX2 := Lib.hid hx2; clear hx2
      have HP2 := Lib.hid hp2; clear hp2
      go_wp2_with fail
      go_fit (lawDefinite_any rA rl rc p.rules p.n _ HP2.out.rules L.out.wl (by omega)); rintro e w3 ⟨dA, dc, rfl, hd, hb3⟩
      have hx3 := HX2.out.bel hb3
      clear p0 p1 p2 p3 p4 p5
      obtain ⟨p0, p1, p2, p3, p4, p5⟩ := pcells hx3
      have HB3 := Lib.hid (bel_trans HB2.out hb3)
      clear hb3
      have hdc := hd.cap
      have hdm := hd.max
      have HX3 := Lib.hid hx3; clear hx3
      have HD := Lib.hid hd; clear hd
      go_wp2_with fail
      have hmark : True := trivial
      go_region_held3 (fun w' => w'.cell? ⟨w.heap.size, 0, none⟩ = some (.int .i64 p.n) ∧ Below w3.heap.size w3 w') (first | exact ⟨by simpa using p0, (Below.refl _ _).drew⟩ | exact ⟨p0'', HB5⟩ | exact ⟨p0', HB4⟩ | go_keep)
        (first
        | (go_at_call 18; clear hmark; refine (CS1.out _).mono ?_; rintro e w4 ⟨A1, l1, c1, rfl, hs1, hb4⟩; have HB4 : Below w3.heap.size w3 w4 := bel_trans (by first | assumption | exact (Below.refl _ _).drew) hb4; have HS1 := Lib.hid hs1; have p0' := (HB4.cell (p := ⟨w.heap.size, 0, none⟩) p5).trans p0; clear hs1)
        | (go_at_call 18; refine (CS2.out _).mono ?_; rintro e w5 ⟨A2, l2, c2, rfl, hs2, hb5⟩; have HB5 : Below w3.heap.size w3 w5 := bel_trans (by first | assumption | exact (Below.refl _ _).drew) hb5; have HS2 := Lib.hid hs2; have p0'' := (HB5.cell (p := ⟨w.heap.size, 0, none⟩) p5).trans p0; clear hs2))
      have hs1 := HS1.out.ext hb5
      have hd5 := HD.out.ext HB5
      have hx5 := HX3.out.bel HB5
      have HBZ := Lib.hid (bel_trans HB3.out HB5)
      clear p0 p0' p0'' p1 p2 p3 p4 p5 HB4 HB5 hb4 hb5 HS1 HD
      have HS1 := Lib.hid hs1; clear hs1
      have HD5 := Lib.hid hd5; clear hd5
      have HX5 := Lib.hid hx5; clear hx5
      go_wp2_with fail
      go_loopw [46] (fun t wr => ∃ j : Nat, j ≤ rl ∧ t = .int .i64 (j : Int) ∧ Below w5.heap.size w5 wr) (fun t _ => rl - (intOf t).toNat)
      case atStart => exact ⟨0, Nat.zero_le _, rfl, Below.refl _ _⟩
      case round =>
        obtain ⟨j, hj, rfl, hb⟩ := hrel
        have hdr := HD5.out.ext hb
        have hs1 := HS1.out.ext hb
        have hs2 := HS2.out.ext hb
        by_cases hlt : j < rl
        · obtain ⟨r, hri, -⟩ := hdr.drop hlt
          have hbo := L.out.body r (List.mem_of_getElem? hri)
          obtain ⟨bb, off, hA, hl, hc, bA, bl, bc, wA, wl, wc, rfl, hbl2, d0, d1, d2, d3, d4, d5, g1, g2, g3, g4⟩ := hdr.rule hri
          have j0 : (0 : Int) ≤ (j : Int) := by omega
          have j1 : (j : Int) < (rl : Int) := by omega
          have hRI : RuleIn wr r hA hl hc bA bl bc wA wl wc := ⟨g1, g2, g3, g4⟩
          have cB1 := fun W (hb : Below wr.heap.size wr W) => bodyOut_any r hA hl hc bA bl bc wA wl wc A1 l1 c1 m W (hRI.ext hb) (hs1.ext hb)
          have cB2 := fun W (hb : Below wr.heap.size wr W) => bodyOut_any r hA hl hc bA bl bc wA wl wc A2 l2 c2 k W (hRI.ext hb) (hs2.ext hb)
          generalize bodyC r m = z1 at *
          generalize bodyC r k = z2 at *
          have HB := Lib.hid hb
          clear hb
          cases z1 with
          | false =>
            have HS1 := Lib.hid hs1; clear hs1
            have HS2 := Lib.hid hs2; clear hs2
            have HDR := Lib.hid hdr; clear hdr
            have HRI := Lib.hid hri; clear hri
            have G1 := Lib.hid g1; clear g1
            have G2 := Lib.hid g2; clear g2
            have G3 := Lib.hid g3; clear g3
            have G4 := Lib.hid g4; clear g4
            have CB1 := Lib.hid cB1; clear cB1
            have CB2 := Lib.hid cB2; clear cB2
            have HRI := Lib.hid hRI; clear hRI
            have HBO := Lib.hid hbo; clear hbo
            go_wp2_with fail
            go_fit (CB1.out _ (bel_alloc _ _)); rintro e w6 ⟨rfl, hb6⟩
            have HB6 := Lib.hid (bel_trans HB.out (bel_trans (bel_alloc _ _) hb6))
            clear hb6
            go_wp2_with fail
            go_roundw
            case rel => exact ⟨j + 1, by omega, by go_num, HB6.out⟩
            case measure => simp [intOf]; omega
          | true =>
            obtain rfl := hbo rfl
            have HS1 := Lib.hid hs1; clear hs1
            have HS2 := Lib.hid hs2; clear hs2
            have HDR := Lib.hid hdr; clear hdr
            have HRI := Lib.hid hri; clear hri
            have G1 := Lib.hid g1; clear g1
            have G2 := Lib.hid g2; clear g2
            have G3 := Lib.hid g3; clear g3
            have G4 := Lib.hid g4; clear g4
            have CB1 := Lib.hid cB1; clear cB1
            have CB2 := Lib.hid cB2; clear cB2
            have HRI := Lib.hid hRI; clear hRI
            have HBO := Lib.hid hbo; clear hbo
            go_wp2_with fail
            go_fit (CB1.out _ (bel_alloc _ _)); rintro e w6 ⟨rfl, hb6⟩
            have hx6 := (Blk.new wr 26 #[.bool r.choice, .slice hA hl hc, .bool r.sum, .int .i64 r.bound, .slice bA bl bc, .slice wA wl wc]).bel hb6
            obtain ⟨q0, q1, q2, q3, q4, q5, q6⟩ := rcells hx6
            have HBX := Lib.hid (bel_trans (bel_alloc wr _) hb6)
            clear hb6
            have HX6 := Lib.hid hx6; clear hx6
            go_wp2_with fail
            go_fit (CB2.out _ HBX.out); rintro e w7 ⟨rfl, hb7⟩
            have HB7 := Lib.hid (bel_trans HB.out (bel_trans HBX.out hb7))
            clear hb7
            go_wp2_with fail
            go_roundw
            case rel => exact ⟨j + 1, by omega, by go_num, HB7.out⟩
            case measure => simp [intOf]; omega
        · have hx6 := HX5.out.bel hb
          obtain ⟨p0, p1, p2, p3, p4, p5⟩ := pcells hx6
          have HB6 := Lib.hid (bel_trans HBZ.out hb)
          clear hb
          have hpos : (0 : Int) < (rl : Int) + 1 := by omega
          have hq0 := Int.emod_nonneg c (show (rl : Int) + 1 ≠ 0 by omega)
          have hq1 := Int.emod_lt_of_pos c hpos
          obtain ⟨q, hq⟩ : ∃ q : Nat, c % ((rl : Int) + 1) = (q : Int) := ⟨(c % ((rl : Int) + 1)).toNat, by omega⟩
          have q0 : (0 : Int) ≤ (q : Int) := by omega
          have q1 : (q : Int) ≤ (dc : Int) := by omega
          have q2 : q ≤ rl := by omega
          have cR := fun A l c rs W (h : SlIs ruleR W A l c rs) (hd : defB N rs = true) => rounds_any A l c rs N W h hd
          simp only [← L.out.n] at cR
          have htk := sl_take hdr q (show q = min rl q by omega)
          have HS1 := Lib.hid hs1; clear hs1
          have HS2 := Lib.hid hs2; clear hs2
          have HDR := Lib.hid hdr; clear hdr
          have HX6 := Lib.hid hx6; clear hx6
          have HQ0 := Lib.hid hq0; clear hq0
          have HQ1 := Lib.hid hq1; clear hq1
          have CR := Lib.hid cR; clear cR
          have HTK := Lib.hid htk; clear htk
          have HQ := Lib.hid hq; clear hq
          go_wp2_with fail
          rw [HQ.out]
          clear HS1 HS2
          apply wp_cut5 (F := fun xA xl xc w' => SlIs intR w' xA xl xc (roundsL ((defL p.rules).take q) N) ∧ Below wr.heap.size wr w')
          case h =>
            go_region_held3 (fun w' => w'.cell? ⟨w.heap.size, 0, none⟩ = some (.int .i64 p.n) ∧ Below wr.heap.size wr w') (first | exact ⟨by simpa using p0, (Below.refl _ _).drew⟩ | exact ⟨p0', hb7'⟩ | go_keep)
              (first | (go_at_call 10; refine (CR.out dA q dc _ _ (HTK.out.ext ?_) (by rw [L.out.n]; exact L.out.dk q)).mono ?_; exact (Below.refl _ _).drew; rintro e w7 ⟨xA, xl, xc, rfl, hxs, hb7⟩; have hb7' : Below wr.heap.size wr w7 := bel_trans (by first | assumption | exact (Below.refl _ _).drew) hb7; have p0' := (hb7'.cell (p := ⟨w.heap.size, 0, none⟩) p5).trans p0))
            all_goals exact ⟨rfl, xA, xl, xc, w7, ⟨hxs, hb7'⟩, rfl, rfl⟩
          case k =>
            rintro xA xl xc w7 ⟨hxs, hb7⟩
            have hxl : (xl : Int) = p.n := by rw [hxs.len, L.out.n]; simp [roundsL]
            have hdr := HDR.out.ext hb7
            have hx7 := HX6.out.bel hb7
            have HB7 := Lib.hid (bel_trans HB6.out hb7)
            clear hb7 p0 p1 p2 p3 p4 p5
            obtain ⟨p0, p1, p2, p3, p4, p5⟩ := pcells hx7
            clear HDR HTK
            have HXS := Lib.hid hxs; clear hxs
            have HXL := Lib.hid hxl; clear hxl
            have HDR := Lib.hid hdr; clear hdr
            have HX7 := Lib.hid hx7; clear hx7
            go_wp2_with fail
            go_fit (CR.out dA rl dc _ _ HDR.out (by rw [L.out.n]; exact L.out.d)); rintro e w8 ⟨yA, yl, yc, rfl, hys, hb8⟩
            have hxl := HXL.out
            have hyl : (yl : Int) = p.n := by rw [hys.len, L.out.n]; simp [roundsL]
            have hxs := HXS.out.ext hb8
            have hx8 := HX7.out.bel hb8
            have HB8 := Lib.hid (bel_trans HB7.out hb8)
            clear hb8 p0 p1 p2 p3 p4 p5
            obtain ⟨p0, p1, p2, p3, p4, p5⟩ := pcells hx8
            have hb1 : ((xl : Int) != p.n) = false := by rw [hxl]; simp
            have hb2 : ((yl : Int) != p.n) = false := by rw [hyl]; simp
            have hxc := hxs.cap
            have hxm := hxs.max
            have hyc := hys.cap
            have hym := hys.max
            have hxy : yl = xl := by omega
            subst hxy
            clear hxl hyl HXL HXS
            have HXS := Lib.hid hxs; clear hxs
            have HYS := Lib.hid hys; clear hys
            have HX8 := Lib.hid hx8; clear hx8
            go_wp2_with fail
            clear p0 p1 p2 p3 p4 p5
            go_loopw [104] (fun t wr => ∃ i : Nat, i ≤ yl ∧ t = .int .i64 (i : Int) ∧ Below w8.heap.size w8 wr) (fun t _ => yl - (intOf t).toNat)
            case atStart => exact ⟨0, Nat.zero_le _, rfl, Below.refl _ _⟩
            case round =>
              obtain ⟨i, hi, rfl, hb⟩ := hrel
              by_cases hlt2 : i < yl
              · have hxr := HXS.out.ext hb
                have hyr := HYS.out.ext hb
                obtain ⟨x, hx, -⟩ := hxr.drop hlt2
                obtain ⟨y, hy, -⟩ := hyr.drop hlt2
                obtain ⟨xb, xo, rfl, lx, cx, _⟩ := hxr.int hx
                obtain ⟨yb, yo, rfl, ly, cy, _⟩ := hyr.int hy
                have hr := L.out.rnd q i x y hx hy
                have i0 : (0 : Int) ≤ (i : Int) := by omega
                have i1 : (i : Int) < (yl : Int) := by omega
                by_cases h0 : 0 < x
                · obtain ⟨hr1, hr2⟩ := hr h0
                  have z1 : decide (0 < x) = true := decide_eq_true h0
                  have z2 : (y == 0) = false := by simpa using hr1
                  have z3 : decide (x < y) = false := decide_eq_false (by omega)
                  have HXR := Lib.hid hxr; clear hxr
                  have HYR := Lib.hid hyr; clear hyr
                  have HX := Lib.hid hx; clear hx
                  have HY := Lib.hid hy; clear hy
                  have HB := Lib.hid hb; clear hb
                  have HR := Lib.hid hr; clear hr
                  go_wp2_with fail
                  refine wp_region_later [(⟨xb, xo + i, none⟩, .int .i64 x), (⟨yb, yo + i, none⟩, .int .i64 y)] (by kernel_rfl) (by kernel_rfl) (by simp [go_sem, *]) ?_
                  intro hk; simp only [List.forall_mem_cons] at hk; obtain ⟨k1_0, k1_1, kz⟩ := hk; clear kz
                  repeat go_big_quiet_step (fail)
                  refine wpQuiet_nil ?_
                  rintro w2 ⟨u1, rfl⟩
                  have HU1 := Lib.hid u1.h
                  clear k1_0 k1_1
                  go_wp2_with fail
                  go_roundw
                  case rel => exact ⟨i + 1, by omega, by go_num, bel_trans HB.out HU1.out⟩
                  case measure => simp [intOf]; omega
                · have z1 : decide (0 < x) = false := decide_eq_false h0
                  have HXR := Lib.hid hxr; clear hxr
                  have HYR := Lib.hid hyr; clear hyr
                  have HX := Lib.hid hx; clear hx
                  have HY := Lib.hid hy; clear hy
                  have HB := Lib.hid hb; clear hb
                  have HR := Lib.hid hr; clear hr
                  go_wp2_with fail
                  refine wp_region_later [(⟨xb, xo + i, none⟩, .int .i64 x), (⟨yb, yo + i, none⟩, .int .i64 y)] (by kernel_rfl) (by kernel_rfl) (by simp [go_sem, *]) ?_
                  intro hk; simp only [List.forall_mem_cons] at hk; obtain ⟨k1_0, k1_1, kz⟩ := hk; clear kz
                  repeat go_big_quiet_step (fail)
                  refine wpQuiet_nil ?_
                  rintro w2 ⟨u1, rfl⟩
                  have HU1 := Lib.hid u1.h
                  clear k1_0 k1_1
                  go_wp2_with fail
                  go_roundw
                  case rel => exact ⟨i + 1, by omega, by go_num, bel_trans HB.out HU1.out⟩
                  case measure => simp [intOf]; omega
              · have HB9 := Lib.hid (bel_trans HB8.out hb)
                clear hb
                go_wp2_with fail
                go_fit (CA.out _); rintro e w9 ⟨rfl, hb9⟩
                have HBA := Lib.hid (bel_trans HB9.out hb9)
                clear hb9
                go_wp2_with fail
                go_ret
                exact ⟨rfl, HBA.out⟩
    · generalize validE p = v at *
      have q1 : (v != 0) = true := by simpa using hv
      have HF := Lib.hid hf; clear hf
      have HV := Lib.hid hv; clear hv
      have CF := Lib.hid cF; clear cF
      have CV := Lib.hid cV; clear cV
      have CA := Lib.hid cA; clear cA
      have HP := Lib.hid hp; clear hp
      go_enter Try.func7, Try.ntmps7
      go_wp2_with fail
      go_fit (CF.out _ (bel_alloc _ _)); rintro e w1 ⟨rfl, hb1⟩
      have hx1 := (Blk.new w 36 #[.int .i64 p.n, .slice nA nl nc, .slice sA sl sc, .slice rA rl rc, .slice mA ml mc]).bel hb1
      obtain ⟨p0, p1, p2, p3, p4, p5⟩ := pcells hx1
      have HB1 := Lib.hid (bel_trans (bel_alloc _ _) hb1)
      clear hb1
      have HX1 := Lib.hid hx1; clear hx1
      go_wp2_with fail
      go_fit (CV.out _ HB1.out); rintro e w2 ⟨rfl, hb2⟩
      have HB2 := Lib.hid (bel_trans HB1.out hb2)
      clear hb2
      go_wp2_with fail
      go_fit (CA.out _); rintro e w3 ⟨rfl, hb3⟩
      have HB3 := Lib.hid (bel_trans HB2.out hb3)
      clear hb3
      go_wp2_with fail
      go_ret
      exact ⟨rfl, HB3.out⟩
end Go.Proofs.Ytcbkkjcleiibfaa

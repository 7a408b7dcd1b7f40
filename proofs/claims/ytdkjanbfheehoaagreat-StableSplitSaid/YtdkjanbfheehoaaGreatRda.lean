/- Contracts: reduct.reduced and what it yields; Reduct. -/
import Derived.Test.YtdkjanbfheehoaaGreatRd9
import Derived.OwnWalkIn
import Derived.TacticsInMore
import Derived.LoopNIn
import Derived.LoopIn
import Derived.Shelf.Abstract
import Derived.Deep.RegionWith
namespace Go.Proofs.YtdkjanbfheehoaaGreat
open Go.RowKit Go.Shelf
attribute [local go_sem] Oper.semAt_some

/-- What the iterator reads. -/
structure RedRes (W : World) (bp bi a : Nat) (p : GProg) (pv : Nat → Value) (rA : Option Addr) (rl rc : Nat) (ms : List Int) : Prop where
  c0 : W.cell? ⟨bp, 3, none⟩ = some (.slice rA rl rc)
  ci : W.cell? ⟨bi, 0, none⟩ = some (.func (.func 129) #[] #[.pointer (some ⟨a, 0, none⟩)])
  mem : MemIn W a ms
theorem reductL_pre (rs : List GRule) (ms : List Int) (k : Nat) : reductL (rs.take k) ms <+: reductL rs ms := by
  refine ⟨reductL (rs.drop k) ms, ?_⟩
  unfold reductL
  rw [← List.flatMap_append, List.take_append_drop]
theorem sl_one {W : World} {H : Nat} {y : Int} (h : Blk W H 3 #[.int .i64 y]) (hy : I64 y) : SlIs intR W (some ⟨H, 0, none⟩) 1 1 [y] := by
  refine ⟨rfl, Nat.le_refl _, ⟨by unfold maxLen; omega, by omega⟩, fun _ => ⟨_, rfl, h.lt, fun i x hx => ?_⟩⟩
  match i, hx with
  | 0, hx =>
    simp at hx; subst hx
    refine ⟨[.int .i64 y], ⟨rfl, hy⟩, fun j u hu => ?_⟩
    match j, hu with
    | 0, hu => simp at hu; subst hu; rw [add_none]; exact h.cell 0
    | j + 1, hu => simp at hu
  | i + 1, hx => simp at hx
/-- What a rule of a choice is when it is handed on. -/
theorem red_end {x : GRule} {y : Int} {wr Z w3 V : World} {M : List Nat} {H : Nat} {bA wA : Option Addr} {bl bc wl wc : Nat} (hZ : Below wr.heap.size wr Z) (hz : wr.heap.size < Z.heap.size) (hb3 : Below Z.heap.size Z w3)
    (hs2 : SlIs intR w3 bA bl bc x.body) (f2 : Frs Z.heap.size bA bl) (hs3 : SlIs intR w3 wA wl wc x.w) (f3 : Frs Z.heap.size wA wl) (hM : ∀ q ∈ M, q < wr.heap.size) (hx : I64 x.bound) (hy : I64 y)
    (hV : Kept [wr.heap.size] w3 V) (hH : Blk V H 3 #[.int .i64 y]) (hHM : Z.heap.size ≤ H) :
    GoodR M { x with head := [y] } #[.agg #[.bool x.choice, .slice (some ⟨H, 0, none⟩) 1 1, .bool x.sum, .int .i64 x.bound, .slice bA bl bc, .slice wA wl wc]] V ∧ Below wr.heap.size wr V :=
  ⟨⟨some ⟨H, 0, none⟩, 1, 1, bA, bl, bc, wA, wl, wc, rfl, ⟨sl_one hH hy, hx, hs2.keptM hV (fun h0 ad e hm => by have := f2 h0 ad e; simp at hm; omega), hs3.keptM hV (fun h0 ad e hm => by have := f3 h0 ad e; simp at hm; omega)⟩,
      fun _ ad e hm => by cases e; have := hM _ hm; simp at this; omega, f2.off (fun q hq => by have := hM q hq; omega), f3.off (fun q hq => by have := hM q hq; omega)⟩,
    Kept.below (bel_trans hZ hb3) hV (by have := hb3.size; omega) (fun q hq => by simp at hq; omega)⟩
set_option maxRecDepth 100000 in
set_option maxHeartbeats 4000000 in
theorem red1_iter (m : Nat) (hm : 1 ≤ m) (p : GProg) (bp bi a : Nat) (pv : Nat → Value) (rA : Option Addr) (rl rc : Nat) (ms : List Int) (M0 : List Nat) (v0 w : World) (hr0 : SlIs ruleR v0 rA rl rc p.rules) (hb0 : Below v0.heap.size v0 w) (hM0 : ∀ q ∈ M0, v0.heap.size ≤ q)
    (hres : ∀ M W, (∀ k ∈ M, k ∈ M0 ∨ w.heap.size ≤ k) → Kept M w W → RedRes W bp bi a p pv rA rl rc ms) (hv : ∀ r ∈ p.rules, RuleIs r p.n) :
    IterM Fence.wide m Tryz.prog 127 #[.pointer (some ⟨bp, 0, none⟩), .pointer (some ⟨bi, 0, none⟩)] GoodR (reductL p.rules ms) M0 w := by
  intro l J Jx M W hJ hJx hJM hY h0 hbw hM
  refine callsIn_of_wp Tryz.func127 rfl trivial ?_ rfl
  simp only [Tryz.ntmps127, List.size_toArray, List.length_cons, List.length_nil, Nat.reduceAdd, Nat.reduceSub, Array.replicate_succ, Array.replicate_zero, List.push_toArray, List.append_toArray, List.nil_append, List.cons_append]
  have hR := hres M W hM (Kept.of_below hbw _)
  have c3 := hR.c0
  have hrc := hr0.cap
  have hrm := hr0.max
  have hB0 : ∀ M W, (∀ k ∈ M, k ∈ M0 ∨ w.heap.size ≤ k) → Kept M w W → Below v0.heap.size v0 W := fun M W h1 h2 => Kept.below hb0 h2 hb0.size (fun q hq => by rcases h1 q hq with h | h; exact hM0 q h; exact Nat.le_trans hb0.size h)
  have HJ' := Lib.hid hJ
  clear hJ
  have HB0' := Lib.hid hB0; clear hB0
  have HY' := Lib.hid hY; clear hY
  have HR0 := Lib.hid hr0; clear hr0
  have HB0 := Lib.hid hb0; clear hb0
  have HM0 := Lib.hid hM0; clear hM0
  have HR := Lib.hid hR; clear hR
  have HRES := Lib.hid hres; clear hres
  have HV := Lib.hid hv; clear hv
  have HJX := Lib.hid hJx; clear hJx
  have HJM := Lib.hid hJM; clear hJM
  have H0 := Lib.hid h0; clear h0
  have HM := Lib.hid hM; clear hM
  have HBW := Lib.hid hbw; clear hbw
  gi_wp2
  gi_loopw [14] (fun t wr => ∃ (k : Nat) (M Ms : List Nat), k ≤ rl ∧ t = .int .i64 (k : Int) ∧ J M (reductL (p.rules.take k) ms) wr ∧ Kept Ms w wr ∧ (∀ q ∈ M, q ∈ Ms) ∧ (∀ q ∈ Ms, q ∈ M0 ∨ w.heap.size ≤ q)) (fun t _ => rl - (intOf t).toNat)
  case atStart => exact ⟨0, M, M, Nat.zero_le _, rfl, H0.out, Kept.of_below HBW.out _, fun _ h => h, HM.out⟩
  case round =>
    obtain ⟨k, M1, Ms, hk, rfl, hj, hkw, hsub, hM1⟩ := hrel
    have hR1 := HRES.out Ms wr hM1 hkw
    have hBr := HB0'.out Ms wr hM1 hkw
    have ci := hR1.ci
    by_cases hlt : k < rl
    · obtain ⟨r, hri, -⟩ := HR0.out.drop hlt
      obtain ⟨b, off, hA, hl, hc, bA, bl, bc, wA, wl, wc, rfl, hbl2, c0, c1, c2, c3', c4, c5, g1, g2, g3, g4⟩ := HR0.out.rule hri
      have G0 := Lib.hid g1
      replace c0 := (hBr.cell (World.block_lt_of_cell? _ _ c0)).trans c0
      replace c1 := (hBr.cell (World.block_lt_of_cell? _ _ c1)).trans c1
      replace c2 := (hBr.cell (World.block_lt_of_cell? _ _ c2)).trans c2
      replace c3' := (hBr.cell (World.block_lt_of_cell? _ _ c3')).trans c3'
      replace c4 := (hBr.cell (World.block_lt_of_cell? _ _ c4)).trans c4
      replace c5 := (hBr.cell (World.block_lt_of_cell? _ _ c5)).trans c5
      replace g1 := g1.ext hBr
      replace g3 := g3.ext hBr
      replace g4 := g4.ext hBr
      have k0 : (0 : Int) ≤ (k : Int) := by omega
      have k1 : (k : Int) < (rl : Int) := by omega
      have hms := HJM.out _ _ _ hj
      have hbi := World.block_lt_of_cell? _ _ ci
      simp only at hbi
      have hvr := HV.out r (List.mem_of_getElem? hri)
      have htk := reductL_take (m := ms) hri
      have cP := fun W (hb : Below wr.heap.size wr W) => positive_any r hA hl hc bA bl bc wA wl wc a ms p.n W ⟨g1.ext hb, g2, g3.ext hb, g4.ext hb⟩ (hR1.mem.ext hb) hvr
      have HJ1 := Lib.hid hj; clear hj
      have HBR := Lib.hid hBr; clear hBr
      have HKW := Lib.hid hkw; clear hkw
      have HM1 := Lib.hid hM1; clear hM1
      have HR1 := Lib.hid hR1; clear hR1
      have HRI := Lib.hid hri; clear hri
      have G1 := Lib.hid g1; clear g1
      have G2 := Lib.hid g2; clear g2
      have G3 := Lib.hid g3; clear g3
      have G4 := Lib.hid g4; clear g4
      have HMS := Lib.hid hms; clear hms
      have HVR := Lib.hid hvr; clear hvr
      have HTK := Lib.hid htk; clear htk
      have CP := Lib.hid cP; clear cP
      have HSUB := Lib.hid hsub; clear hsub
      gi_wp2_with fail
      refine ⟨trivial, ?_⟩
      refine (callsIn_wide.2 (CP.out _ (bel_alloc _ _))).mono ?_
      rintro e w1 (⟨hd, rfl, hb1⟩ | ⟨hd, xA, xl, xc, yA, yl, yc, rfl, hx, fx, fy, hb1⟩)
      · have hb1' := bel_trans (bel_alloc _ _) hb1
        have hj' := HJ'.out _ _ _ _ HJ1.out (bel_trans hb1' (bel_alloc w1 (.cells #[.bool false, .slice none 0 0, .bool false, .int .i64 0, .slice none 0 0, .slice none 0 0] 32)))
        have hk' := (HKW.out.bel hb1').alloc (.cells #[.bool false, .slice none 0 0, .bool false, .int .i64 0, .slice none 0 0, .slice none 0 0] 32)
        have hred : redOne ms r = [] := by unfold redOne; rw [hd]; rfl
        have htk := HTK.out
        rw [hred, List.append_nil] at htk
        have HB1 := Lib.hid hb1; clear hb1
        have HB1' := Lib.hid hb1'; clear hb1'
        have HJ' := Lib.hid hj'; clear hj'
        have HK' := Lib.hid hk'; clear hk'
        have HRED := Lib.hid hred; clear hred
        have HTK := Lib.hid htk; clear htk
        have HD := Lib.hid hd; clear hd
        gi_wp2_with fail
        go_roundw
        case rel => exact ⟨k + 1, M1, Ms, by omega, by go_num, by rw [HTK.out]; exact HJ'.out, HK'.out, HSUB.out, HM1.out⟩
        case measure => simp [intOf]; omega
      · have hb1' := bel_trans (bel_alloc _ _) hb1
        have hbx0 := (Blk.new wr 32 #[.bool r.choice, .slice hA hl hc, .bool r.sum, .int .i64 r.bound, .slice bA bl bc, .slice wA wl wc]).bel hb1
        have q0 : w1.cell? ⟨wr.heap.size, 0, none⟩ = some (.bool r.choice) := hbx0.cell 0
        have q1 : w1.cell? ⟨wr.heap.size, 1, none⟩ = some (.slice hA hl hc) := hbx0.cell 1
        have hzz := hbx0.lt
        by_cases hch : r.choice = true
        · rw [hch] at q0
          have hY1 := Blk.new w1 32 #[.bool (posRule r ms).choice, .slice none 0 0, .bool (posRule r ms).sum, .int .i64 (posRule r ms).bound, .slice xA xl xc, .slice yA yl yc]
          have hrY := hbx0.alloc (.cells #[.bool (posRule r ms).choice, .slice none 0 0, .bool (posRule r ms).sum, .int .i64 (posRule r ms).bound, .slice xA xl xc, .slice yA yl yc] 32)
          have hbY := bel_trans hb1' (bel_alloc w1 (.cells #[.bool (posRule r ms).choice, .slice none 0 0, .bool (posRule r ms).sum, .int .i64 (posRule r ms).bound, .slice xA xl xc, .slice yA yl yc] 32))
          have hxY := hx.ext (bel_alloc w1 (.cells #[.bool (posRule r ms).choice, .slice none 0 0, .bool (posRule r ms).sum, .int .i64 (posRule r ms).bound, .slice xA xl xc, .slice yA yl yc] 32))
          have hsY : (w1.alloc (.cells #[.bool (posRule r ms).choice, .slice none 0 0, .bool (posRule r ms).sum, .int .i64 (posRule r ms).bound, .slice xA xl xc, .slice yA yl yc] 32)).heap.size = w1.heap.size + 1 := by simp
          have hred : redOne ms r = (r.head.filter fun a => decide (a ∈ ms)).map fun a => { posRule r ms with head := [a] } := by unfold redOne; rw [hd, hch]; rfl
          generalize hpr : posRule r ms = x at *
          have HB1 := Lib.hid hb1; clear hb1
          have HB1' := Lib.hid hb1'; clear hb1'
          have HBX0 := Lib.hid hbx0; clear hbx0
          have HX := Lib.hid hx; clear hx
          have FX := Lib.hid fx; clear fx
          have FY := Lib.hid fy; clear fy
          have HD := Lib.hid hd; clear hd
          have HY1 := Lib.hid hY1; clear hY1
          have HBY := Lib.hid hbY; clear hbY
          have HRY := Lib.hid hrY; clear hrY
          have HXY := Lib.hid hxY; clear hxY
          have HSY := Lib.hid hsY; clear hsY
          have HCH := Lib.hid hch; clear hch
          have HPR := Lib.hid hpr; clear hpr
          have HRED := Lib.hid hred; clear hred
          gi_wp2_with fail
          generalize w1.alloc (.cells #[.bool x.choice, .slice none 0 0, .bool x.sum, .int .i64 x.bound, .slice xA xl xc, .slice yA yl yc] 32) = Y at *
          clear q0 q1 c0 c1 c2 c3' c4 c5 ci c3
          have hhc := G1.out.cap
          have hhm := G1.out.max
          have hjY := HJ'.out _ _ _ _ HJ1.out HBY.out
          have HJY := Lib.hid hjY
          clear hjY
          obtain ⟨wo, rfl⟩ : ∃ wo : World, wo = wr := ⟨_, rfl⟩
          gi_loopw [27] (fun t wq => ∃ (j : Nat) (M Mt : List Nat), j ≤ hl ∧ t = .int .i64 (j : Int) ∧ J M (reductL (p.rules.take k) ms ++ ((r.head.take j).filter fun a => decide (a ∈ ms)).map fun a => { x with head := [a] }) wq ∧ Kept Mt Y wq ∧ (∀ q ∈ M, q ∈ Mt) ∧ (∀ q ∈ Mt, q ∈ M1 ∨ Y.heap.size ≤ q)) (fun t _ => hl - (intOf t).toNat)
          case atStart => exact ⟨0, M1, M1, Nat.zero_le _, rfl, by rw [List.take_zero, List.filter_nil, List.map_nil, List.append_nil]; exact HJY.out, Kept.refl _ _, fun _ h => h, fun _ h => .inl h⟩
          case round =>
            obtain ⟨j, M, Mt, hj, rfl, hjj, hkY, hMt, hcY⟩ := hrel
            have hkw2 : Kept (Ms ++ Mt) w wr := ((HKW.out.bel HBY.out).more (fun q hq => by simp [hq])).trans (hkY.more (fun q hq => by simp [hq]))
            have hcw2 : ∀ q ∈ Ms ++ Mt, q ∈ M0 ∨ w.heap.size ≤ q := fun q hq => by
              rcases List.mem_append.1 hq with h | h
              · exact HM1.out q h
              · rcases hcY q h with h | h
                · exact HM1.out q (HSUB.out q h)
                · exact .inr (Nat.le_trans (HKW.out.bel HBY.out).size h)
            have hR2 := HRES.out _ wr hcw2 hkw2
            have hB2 := HB0'.out _ wr hcw2 hkw2
            have hlo : wo.heap.size < w1.heap.size := hzz
            have hof : ∀ q, wo.heap.size ≤ q → q < w1.heap.size + 1 → q ∉ Mt := fun q h1 h2 hm => by
              rcases hcY q hm with h | h
              · have := HMS.out q h; omega
              · have := HSY.out; omega
            have hYr := hkY.blk HRY.out (hof _ (Nat.le_refl _) (by omega))
            have hYx := hkY.blk HY1.out (hof _ (by omega) (by omega))
            have hxr : RuleIn wr x none 0 0 xA xl xc yA yl yc := ⟨HXY.out.head.keptM hkY (Off.nil _ _), HX.out.bound,
              HXY.out.body.keptM hkY (fun h0 ad e => hof _ (by have := FX.out h0 ad e; simp at this; omega) (by have := HX.out.body.blk_lt h0 e; omega)),
              HXY.out.wt.keptM hkY (fun h0 ad e => hof _ (by have := FY.out h0 ad e; simp at this; omega) (by have := HX.out.wt.blk_lt h0 e; omega))⟩
            have hsY2 : w1.heap.size + 1 ≤ wr.heap.size := by have := hkY.size; have := HSY.out; omega
            have ci := hR2.ci
            have hbi2 := World.block_lt_of_cell? _ _ ci
            by_cases hlj : j < hl
            · obtain ⟨y, hy, -⟩ := G0.out.drop hlj
              obtain ⟨yb, yo, rfl, _, cy, hy64⟩ := (G0.out.ext hB2).int hy
              have j0 : (0 : Int) ≤ (j : Int) := by omega
              have j1 : (j : Int) < (hl : Int) := by omega
              have cM := memberF_any y a ms wr hR2.mem hy64
              have hst : ((r.head.take (j + 1)).filter fun a => decide (a ∈ ms)) = if decide (y ∈ ms) then ((r.head.take j).filter fun a => decide (a ∈ ms)) ++ [y] else ((r.head.take j).filter fun a => decide (a ∈ ms)) := by
                rw [take_snoc' hy, List.filter_append]
                by_cases h1 : y ∈ ms <;> simp [h1]
              by_cases hin : decide (y ∈ ms) = true
              · rw [hin] at cM hst
                rw [if_pos rfl] at hst
                have x0 : wr.cell? ⟨w1.heap.size, 0, none⟩ = some (.bool x.choice) := hYx.cell 0
                have x1 : wr.cell? ⟨w1.heap.size, 1, none⟩ = some (.slice none 0 0) := hYx.cell 1
                have x2 : wr.cell? ⟨w1.heap.size, 2, none⟩ = some (.bool x.sum) := hYx.cell 2
                have x3 : wr.cell? ⟨w1.heap.size, 3, none⟩ = some (.int .i64 x.bound) := hYx.cell 3
                have x4 : wr.cell? ⟨w1.heap.size, 4, none⟩ = some (.slice xA xl xc) := hYx.cell 4
                have x5 : wr.cell? ⟨w1.heap.size, 5, none⟩ = some (.slice yA yl yc) := hYx.cell 5
                have HJJ := Lib.hid hjj; clear hjj
                have HKY := Lib.hid hkY; clear hkY
                have HMT := Lib.hid hMt; clear hMt
                have HCY := Lib.hid hcY; clear hcY
                have HKW2 := Lib.hid hkw2; clear hkw2
                have HCW2 := Lib.hid hcw2; clear hcw2
                have HR2 := Lib.hid hR2; clear hR2
                have HB2 := Lib.hid hB2; clear hB2
                have HOF := Lib.hid hof; clear hof
                have HYR := Lib.hid hYr; clear hYr
                have HYX := Lib.hid hYx; clear hYx
                have HXR := Lib.hid hxr; clear hxr
                have CM := Lib.hid cM; clear cM
                have HST := Lib.hid hst; clear hst
                have HIN := Lib.hid hin; clear hin
                have HY := Lib.hid hy; clear hy
                have HY64 := Lib.hid hy64; clear hy64
                gi_wp2_with fail
                refine ⟨trivial, ?_⟩
                refine (callsIn_wide.2 CM.out).mono ?_
                rintro e w' ⟨rfl, rfl⟩
                gi_wp2_with fail
                refine wpIn_wide.2 ?_
                have hZ := bel_alloc wr (.cells #[.bool x.choice, .slice none 0 0, .bool x.sum, .int .i64 x.bound, .slice xA xl xc, .slice yA yl yc] 32)
                have bZ := Blk.new wr 32 #[.bool x.choice, .slice none 0 0, .bool x.sum, .int .i64 x.bound, .slice xA xl xc, .slice yA yl yc]
                have sZ : (wr.alloc (.cells #[.bool x.choice, .slice none 0 0, .bool x.sum, .int .i64 x.bound, .slice xA xl xc, .slice yA yl yc] 32)).heap.size = wr.heap.size + 1 := by simp
                generalize wr.alloc (.cells #[.bool x.choice, .slice none 0 0, .bool x.sum, .int .i64 x.bound, .slice xA xl xc, .slice yA yl yc] 32) = Z at *
                have lZ : w1.heap.size < Z.heap.size := by omega
                have lZ2 : wr.heap.size < Z.heap.size := by omega
                replace x4 := (hZ.cell (p := ⟨w1.heap.size, 4, none⟩) (show w1.heap.size < wr.heap.size by omega)).trans x4
                replace x5 := (hZ.cell (p := ⟨w1.heap.size, 5, none⟩) (show w1.heap.size < wr.heap.size by omega)).trans x5
                clear x0 x1 x2 x3 ci cy
                have z1 : Z.cell? ⟨wr.heap.size, 1, none⟩ = some (.slice none 0 0) := bZ.cell 1
                have z4 : Z.cell? ⟨wr.heap.size, 4, none⟩ = some (.slice xA xl xc) := bZ.cell 4
                have z5 : Z.cell? ⟨wr.heap.size, 5, none⟩ = some (.slice yA yl yc) := bZ.cell 5
                have zf1 : Z.frozen? ⟨wr.heap.size, 1, none⟩ = false := bZ.frozen 1
                have zf4 : Z.frozen? ⟨wr.heap.size, 4, none⟩ = false := bZ.frozen 4
                have zf5 : Z.frozen? ⟨wr.heap.size, 5, none⟩ = false := bZ.frozen 5
                have cb := fun W (hb : Below Z.heap.size Z W) => clone2_any xA xl xc x.body W ((HXR.out.body.ext hZ).ext hb)
                have cw := fun W (hb : Below Z.heap.size Z W) => clone2_any yA yl yc x.w W ((HXR.out.wt.ext hZ).ext hb)
                have HZ := Lib.hid hZ; clear hZ
                have BZ := Lib.hid bZ; clear bZ
                have SZ := Lib.hid sZ; clear sZ
                have CB := Lib.hid cb; clear cb
                have CW := Lib.hid cw; clear cw
                go_region_with (first
                  | (go_at_call 59; with_reducible (refine (CB.out _ ?_).mono ?_); (first | exact (Below.refl _ _).drew | exact (bel_alloc _ _).drew); rintro e w2 ⟨bA2, bl2, bc2, rfl, hs2, hf2, hb2⟩; (first | (have hbz2 := bel_trans (Below.refl Z.heap.size Z).drew hb2) | (have hbz2 := bel_trans (bel_alloc Z _).drew hb2)); have x4' := (hbz2.cell (p := ⟨w1.heap.size, 4, none⟩) lZ).trans x4; have x5' := (hbz2.cell (p := ⟨w1.heap.size, 5, none⟩) lZ).trans x5; have hz2 := hbz2.size; have lw2 : w1.heap.size < w2.heap.size := Nat.lt_of_lt_of_le lZ hz2; have lv2 : wr.heap.size < w2.heap.size := Nat.lt_of_lt_of_le lZ2 hz2; have HB2 := Lib.hid hb2; have HBZ2 := Lib.hid hbz2; have HS2 := Lib.hid hs2; have HF2 := Lib.hid hf2; clear hb2 hs2 hf2 hbz2)
                  | (go_at_call 59; with_reducible (refine (CW.out _ ?_).mono ?_); (first | exact HBZ2.out | exact HBZ2.out.drew | exact bel_trans HBZ2.out (bel_alloc _ _) | exact (bel_trans HBZ2.out (bel_alloc _ _)).drew); rintro e w3 ⟨wA2, wl2, wc2, rfl, hs3, hf3, hb3⟩; (first | (have hbz3 := bel_trans HBZ2.out hb3) | (have hbz3 := bel_trans (bel_trans HBZ2.out (bel_alloc _ _)) hb3)); have z1' := (hbz3.cell (p := ⟨wr.heap.size, 1, none⟩) lZ2).trans z1; have z4' := (hbz3.cell (p := ⟨wr.heap.size, 4, none⟩) lZ2).trans z4; have z5' := (hbz3.cell (p := ⟨wr.heap.size, 5, none⟩) lZ2).trans z5; have zf1' := (hbz3.frozen (p := ⟨wr.heap.size, 1, none⟩) lZ2).trans zf1; have zf4' := (hbz3.frozen (p := ⟨wr.heap.size, 4, none⟩) lZ2).trans zf4; have zf5' := (hbz3.frozen (p := ⟨wr.heap.size, 5, none⟩) lZ2).trans zf5; have hz3 := hbz3.size; have lw3 : w1.heap.size < w3.heap.size := Nat.lt_of_lt_of_le lZ hz3; have lv3 : wr.heap.size < w3.heap.size := Nat.lt_of_lt_of_le lZ2 hz3; have HB3 := Lib.hid hb3; have HBZ3 := Lib.hid hbz3; have HS3 := Lib.hid hs3; have HF3 := Lib.hid hf3; clear hb3 hs3 hf3 hbz3))
                all_goals
                  have hMl : ∀ q ∈ M, q < wr.heap.size := HJM.out _ _ _ HJJ.out
                  have f2 : Frs Z.heap.size bA2 bl2 := HF2.out.mono (by simp)
                  have f3 : Frs Z.heap.size wA2 wl2 := HF3.out.mono (by first | exact hz2 | (simp; omega))
                  have s2 := SlIs.ext HS2.out (by first | exact HB3.out | exact bel_trans (bel_alloc _ _) HB3.out | exact bel_trans (bel_alloc _ _).drew HB3.out)
                  first
                    | (have hH : Blk (((w3.setCell ⟨wr.heap.size, 1, none⟩ (.slice (some ⟨Z.heap.size, 0, none⟩) 1 1)).setCell ⟨wr.heap.size, 4, none⟩ (.slice bA2 bl2 bc2)).setCell ⟨wr.heap.size, 5, none⟩ (.slice wA2 wl2 wc2)) Z.heap.size 3 #[.int .i64 y] := (((((Blk.new Z 3 #[.int .i64 y]).drew.bel HB2.out).bel HB3.out).far (p := ⟨wr.heap.size, 1, none⟩) (show Z.heap.size ≠ wr.heap.size by omega) _).far (p := ⟨wr.heap.size, 4, none⟩) (show Z.heap.size ≠ wr.heap.size by omega) _).far (p := ⟨wr.heap.size, 5, none⟩) (show Z.heap.size ≠ wr.heap.size by omega) _; have hgo := red_end HZ.out lZ2 HBZ3.out s2 f2 HS3.out f3 hMl HXR.out.bound HY64.out (((((Kept.refl [wr.heap.size] w3).set (p := ⟨wr.heap.size, 1, none⟩) (.inl (by simp)) (.slice (some ⟨Z.heap.size, 0, none⟩) 1 1)).set (p := ⟨wr.heap.size, 4, none⟩) (.inl (by simp)) (.slice bA2 bl2 bc2)).set (p := ⟨wr.heap.size, 5, none⟩) (.inl (by simp)) (.slice wA2 wl2 wc2))) hH (Nat.le_refl _))
                    | (have hH : Blk (((w3.setCell ⟨wr.heap.size, 1, none⟩ (.slice (some ⟨w2.heap.size, 0, none⟩) 1 1)).setCell ⟨wr.heap.size, 4, none⟩ (.slice bA2 bl2 bc2)).setCell ⟨wr.heap.size, 5, none⟩ (.slice wA2 wl2 wc2)) w2.heap.size 3 #[.int .i64 y] := ((((Blk.new w2 3 #[.int .i64 y]).bel HB3.out).far (p := ⟨wr.heap.size, 1, none⟩) (show w2.heap.size ≠ wr.heap.size by omega) _).far (p := ⟨wr.heap.size, 4, none⟩) (show w2.heap.size ≠ wr.heap.size by omega) _).far (p := ⟨wr.heap.size, 5, none⟩) (show w2.heap.size ≠ wr.heap.size by omega) _; have hgo := red_end HZ.out lZ2 HBZ3.out s2 f2 HS3.out f3 hMl HXR.out.bound HY64.out (((((Kept.refl [wr.heap.size] w3).set (p := ⟨wr.heap.size, 1, none⟩) (.inl (by simp)) (.slice (some ⟨w2.heap.size, 0, none⟩) 1 1)).set (p := ⟨wr.heap.size, 4, none⟩) (.inl (by simp)) (.slice bA2 bl2 bc2)).set (p := ⟨wr.heap.size, 5, none⟩) (.inl (by simp)) (.slice wA2 wl2 wc2))) hH hz2)
                    | (have hH : Blk ((((w3.setCell ⟨wr.heap.size, 1, none⟩ (.slice (some ⟨w3.heap.size, 0, none⟩) 1 1)).setCell ⟨wr.heap.size, 4, none⟩ (.slice bA2 bl2 bc2)).setCell ⟨wr.heap.size, 5, none⟩ (.slice wA2 wl2 wc2)).alloc (.cells #[.int .i64 y] 3)) w3.heap.size 3 #[.int .i64 y] := blk_new (by simp [World.setCell]) _ _; have hgo := red_end HZ.out lZ2 HBZ3.out s2 f2 HS3.out f3 hMl HXR.out.bound HY64.out (((((Kept.refl [wr.heap.size] w3).set (p := ⟨wr.heap.size, 1, none⟩) (.inl (by simp)) (.slice (some ⟨w3.heap.size, 0, none⟩) 1 1)).set (p := ⟨wr.heap.size, 4, none⟩) (.inl (by simp)) (.slice bA2 bl2 bc2)).set (p := ⟨wr.heap.size, 5, none⟩) (.inl (by simp)) (.slice wA2 wl2 wc2)).alloc _) hH hz3)
                  obtain ⟨hgd, hbV⟩ := hgo
                  have hpf : reductL (p.rules.take k) ms ++ ((r.head.take j).filter fun a => decide (a ∈ ms)).map (fun a => { x with head := [a] }) ++ [{ x with head := [y] }] <+: reductL p.rules ms := by
                    refine List.IsPrefix.trans ?_ (reductL_pre p.rules ms (k + 1))
                    rw [HTK.out, HRED.out, List.append_assoc, List.prefix_append_right_inj, show ∀ (g : Int → GRule) (l : List Int) (z : Int), l.map g ++ [g z] = (l ++ [z]).map g from fun g l z => by simp, ← HST.out]
                    exact (((List.take_prefix _ _).filter _).map _)
                  obtain ⟨fn, tmps, assign, body, hyy, hRd⟩ := HY'.out M _ _ _ _ (HJ'.out _ _ _ _ HJJ.out hbV) hpf hgd
                  have hkV := HKY.out.bel hbV
                  have q0 := (HBZ3.out.cell (p := ⟨wr.heap.size, 0, none⟩) lZ2).trans (BZ.out.cell 0)
                  have q2 := (HBZ3.out.cell (p := ⟨wr.heap.size, 2, none⟩) lZ2).trans (BZ.out.cell 2)
                  have q3 := (HBZ3.out.cell (p := ⟨wr.heap.size, 3, none⟩) lZ2).trans (BZ.out.cell 3)
                  change w3.cell? ⟨wr.heap.size, 0, none⟩ = some (.bool x.choice) at q0
                  change w3.cell? ⟨wr.heap.size, 2, none⟩ = some (.bool x.sum) at q2
                  change w3.cell? ⟨wr.heap.size, 3, none⟩ = some (.int .i64 x.bound) at q3
                  have hq : reductL (p.rules.take k) ms ++ ((r.head.take (j + 1)).filter fun a => decide (a ∈ ms)).map (fun a => { x with head := [a] }) = reductL (p.rules.take k) ms ++ ((r.head.take j).filter fun a => decide (a ∈ ms)).map (fun a => { x with head := [a] }) ++ [{ x with head := [y] }] := by
                    rw [HST.out, List.map_append, List.append_assoc]; rfl
                  have HML := Lib.hid hMl; clear hMl
                  have F2 := Lib.hid f2; clear f2
                  have F3 := Lib.hid f3; clear f3
                  have S2 := Lib.hid s2; clear s2
                  have HH := Lib.hid hH; clear hH
                  have HGD := Lib.hid hgd; clear hgd
                  have HBV := Lib.hid hbV; clear hbV
                  have HKV := Lib.hid hkV; clear hkV
                  have HPF := Lib.hid hpf; clear hpf
                  have HQ := Lib.hid hq; clear hq
                  gi_wp2_with fail
                  refine hRd.mono ?_
                  rintro e W4 (⟨rfl, M2, hj4, hk4, hm4⟩ | ⟨rfl, hjx⟩)
                  · have hw4 : Kept (Mt ++ M2) Y W4 := (HKV.out.more (fun q hq => by simp [hq])).trans (hk4.more (fun q hq => by simp [HMT.out q hq]))
                    have hc4 : ∀ q ∈ Mt ++ M2, q ∈ M1 ∨ Y.heap.size ≤ q := fun q hq => by
                      rcases List.mem_append.1 hq with h | h
                      · exact HCY.out q h
                      · rcases hm4 q h with h | h
                        · exact HCY.out q (HMT.out q h)
                        · exact .inr (Nat.le_trans HKV.out.size h)
                    have HJ4 := Lib.hid hj4; clear hj4
                    have HK4 := Lib.hid hk4; clear hk4
                    have HM4 := Lib.hid hm4; clear hm4
                    have HW4 := Lib.hid hw4; clear hw4
                    have HC4 := Lib.hid hc4; clear hc4
                    gi_wp2_with fail
                    go_roundw
                    case rel => exact ⟨j + 1, M2, Mt ++ M2, by omega, by go_num, by rw [HQ.out]; exact HJ4.out, HW4.out, fun q hq => by simp [hq], HC4.out⟩
                    case measure => simp [intOf]; omega
                  · have HJX' := Lib.hid hjx; clear hjx
                    gi_wp2_with fail
                    refine bodyPost_ret (results_none rfl _ _ _) rfl ?_
                    exact ⟨⟨_, rfl⟩, .inr ⟨_, HPF.out, HJX'.out⟩⟩
              · have hnf : decide (y ∈ ms) = false := by simpa using hin
                rw [hnf] at cM hst
                rw [if_neg (by decide)] at hst
                have HJJ := Lib.hid hjj; clear hjj
                have HKY := Lib.hid hkY; clear hkY
                have HMT := Lib.hid hMt; clear hMt
                have HCY := Lib.hid hcY; clear hcY
                have HKW2 := Lib.hid hkw2; clear hkw2
                have HCW2 := Lib.hid hcw2; clear hcw2
                have HR2 := Lib.hid hR2; clear hR2
                have HB2 := Lib.hid hB2; clear hB2
                have HOF := Lib.hid hof; clear hof
                have HYR := Lib.hid hYr; clear hYr
                have HYX := Lib.hid hYx; clear hYx
                have HXR := Lib.hid hxr; clear hxr
                have CM := Lib.hid cM; clear cM
                have HST := Lib.hid hst; clear hst
                have HIN := Lib.hid hin; clear hin
                have HNF := Lib.hid hnf; clear hnf
                have HY := Lib.hid hy; clear hy
                have HY64 := Lib.hid hy64; clear hy64
                gi_wp2_with fail
                refine ⟨trivial, ?_⟩
                refine (callsIn_wide.2 CM.out).mono ?_
                rintro e w' ⟨rfl, rfl⟩
                gi_wp2_with fail
                go_roundw
                case rel => exact ⟨j + 1, M, Mt, by omega, by go_num, by rw [HST.out]; exact HJJ.out, HKY.out, HMT.out, HCY.out⟩
                case measure => simp [intOf]; omega
            · have hjl : j = hl := by omega
              have hfin : J M (reductL (p.rules.take (k + 1)) ms) wr := by
                rw [HTK.out, HRED.out]
                rw [show r.head.take j = r.head from List.take_of_length_le (by have := G1.out.len; omega)] at hjj
                exact hjj
              have HJJ := Lib.hid hjj; clear hjj
              have HKY := Lib.hid hkY; clear hkY
              have HMT := Lib.hid hMt; clear hMt
              have HCY := Lib.hid hcY; clear hcY
              have HKW2 := Lib.hid hkw2; clear hkw2
              have HCW2 := Lib.hid hcw2; clear hcw2
              have HR2 := Lib.hid hR2; clear hR2
              have HB2 := Lib.hid hB2; clear hB2
              have HOF := Lib.hid hof; clear hof
              have HYR := Lib.hid hYr; clear hYr
              have HYX := Lib.hid hYx; clear hYx
              have HXR := Lib.hid hxr; clear hxr
              have HJL := Lib.hid hjl; clear hjl
              have HFIN := Lib.hid hfin; clear hfin
              gi_wp2_with fail
              go_roundw
              case rel => exact ⟨k + 1, M, Ms ++ Mt, by omega, by go_num, HFIN.out, HKW2.out, fun q hq => by simp [HMT.out q hq], HCW2.out⟩
              case measure => simp [intOf]; omega
        · have hcf : r.choice = false := by simpa using hch
          clear hch
          rw [hcf] at q0
          have hY1 := Blk.new w1 32 #[.bool (posRule r ms).choice, .slice none 0 0, .bool (posRule r ms).sum, .int .i64 (posRule r ms).bound, .slice xA xl xc, .slice yA yl yc]
          have hbY := bel_trans hb1' (bel_alloc w1 (.cells #[.bool (posRule r ms).choice, .slice none 0 0, .bool (posRule r ms).sum, .int .i64 (posRule r ms).bound, .slice xA xl xc, .slice yA yl yc] 32))
          have cC := clone2_any hA hl hc r.head _ (G1.out.ext hbY)
          generalize hpr : posRule r ms = x at *
          have HB1 := Lib.hid hb1; clear hb1
          have HB1' := Lib.hid hb1'; clear hb1'
          have HBX0 := Lib.hid hbx0; clear hbx0
          have HX := Lib.hid hx; clear hx
          have FX := Lib.hid fx; clear fx
          have FY := Lib.hid fy; clear fy
          have HD := Lib.hid hd; clear hd
          have HY1 := Lib.hid hY1; clear hY1
          have HBY := Lib.hid hbY; clear hbY
          have CC := Lib.hid cC; clear cC
          have HCF := Lib.hid hcf; clear hcf
          have HPR := Lib.hid hpr; clear hpr
          gi_wp2_with fail
          refine ⟨trivial, ?_⟩
          refine (callsIn_wide.2 CC.out).mono ?_
          rintro e w2 ⟨cA, cl, cc, rfl, hcs, hcf, hb2⟩
          have hY2 := HY1.out.bel hb2
          have s0 : w2.cell? ⟨w1.heap.size, 0, none⟩ = some (.bool x.choice) := hY2.cell 0
          have s1 : w2.cell? ⟨w1.heap.size, 1, none⟩ = some (.slice none 0 0) := hY2.cell 1
          have s2 : w2.cell? ⟨w1.heap.size, 2, none⟩ = some (.bool x.sum) := hY2.cell 2
          have s3 : w2.cell? ⟨w1.heap.size, 3, none⟩ = some (.int .i64 x.bound) := hY2.cell 3
          have s4 : w2.cell? ⟨w1.heap.size, 4, none⟩ = some (.slice xA xl xc) := hY2.cell 4
          have s5 : w2.cell? ⟨w1.heap.size, 5, none⟩ = some (.slice yA yl yc) := hY2.cell 5
          have sf : w2.frozen? ⟨w1.heap.size, 1, none⟩ = false := hY2.frozen 1
          have hb2' := bel_trans HBY.out hb2
          have k3 : Kept [w1.heap.size] w2 (w2.setCell ⟨w1.heap.size, 1, none⟩ (.slice cA cl cc)) := (Kept.refl _ _).set (.inl (by simp)) _
          have hb3 : Below wr.heap.size wr (w2.setCell ⟨w1.heap.size, 1, none⟩ (.slice cA cl cc)) := Kept.below hb2' k3 hb2'.size (fun q hq => by simp at hq; omega)
          have hj3 := HJ'.out _ _ _ _ HJ1.out hb3
          have hsz2 := hb2.size
          rw [World.size_alloc] at hsz2
          have l1 := HB1'.out.size
          have e2 : Below w1.heap.size w1 w2 := bel_trans (bel_alloc _ _) hb2
          have hgd : GoodR M1 { x with head := r.head } #[ruleV x (.slice cA cl cc) (.slice xA xl xc) (.slice yA yl yc)] (w2.setCell ⟨w1.heap.size, 1, none⟩ (.slice cA cl cc)) :=
            ⟨cA, cl, cc, xA, xl, xc, yA, yl, yc, rfl, ⟨hcs.keptM k3 (fun h0 ad e hm => by have := hcf h0 ad e; simp at hm this; omega), HX.out.bound,
              (HX.out.body.ext e2).keptM k3 (fun h0 ad e hm => by have := HX.out.body.blk_lt h0 e; simp at hm; omega), (HX.out.wt.ext e2).keptM k3 (fun h0 ad e hm => by have := HX.out.wt.blk_lt h0 e; simp at hm; omega)⟩,
              Frs.off hcf (fun q hq => by have := HMS.out q hq; simp; omega), Frs.off FX.out (fun q hq => by have := HMS.out q hq; simp; omega), Frs.off FY.out (fun q hq => by have := HMS.out q hq; simp; omega)⟩
          have hred : redOne ms r = [{ x with head := r.head }] := by unfold redOne; rw [HD.out, HCF.out, HPR.out]; rfl
          have hpf : reductL (p.rules.take k) ms ++ [{ x with head := r.head }] <+: reductL p.rules ms := by
            rw [← hred, ← HTK.out]; exact reductL_pre _ _ _
          obtain ⟨fn, tmps, assign, body, hy, hRd⟩ := HY'.out M1 _ _ _ _ hj3 hpf hgd
          have hk3 := HKW.out.bel hb3
          have htk := HTK.out
          rw [hred] at htk
          have HPF := Lib.hid hpf; clear hpf
          have HCS := Lib.hid hcs; clear hcs
          have HCF := Lib.hid hcf; clear hcf
          have HB2 := Lib.hid hb2; clear hb2
          have HY2 := Lib.hid hY2; clear hY2
          have HB2' := Lib.hid hb2'; clear hb2'
          have K3 := Lib.hid k3; clear k3
          have HB3 := Lib.hid hb3; clear hb3
          have HJ3 := Lib.hid hj3; clear hj3
          have E2 := Lib.hid e2; clear e2
          have HGD := Lib.hid hgd; clear hgd
          have HRED := Lib.hid hred; clear hred
          have HK3 := Lib.hid hk3; clear hk3
          have HTK := Lib.hid htk; clear htk
          gi_wp2_with fail
          refine hRd.mono ?_
          rintro e W4 (⟨rfl, M2, hj4, hk4, hm4⟩ | ⟨rfl, hjx⟩)
          · have hw4 : Kept (Ms ++ M2) w W4 := (HK3.out.more (fun q hq => by simp [hq])).trans (hk4.more (fun q hq => by simp [HSUB.out q hq]))
            have hc4 : ∀ q ∈ Ms ++ M2, q ∈ M0 ∨ w.heap.size ≤ q := fun q hq => by
              rcases List.mem_append.1 hq with h | h
              · exact HM1.out q h
              · rcases hm4 q h with h | h
                · exact HM1.out q (HSUB.out q h)
                · exact .inr (Nat.le_trans HK3.out.size h)
            have HJ4 := Lib.hid hj4; clear hj4
            have HK4 := Lib.hid hk4; clear hk4
            have HM4 := Lib.hid hm4; clear hm4
            have HW4 := Lib.hid hw4; clear hw4
            have HC4 := Lib.hid hc4; clear hc4
            gi_wp2_with fail
            go_roundw
            case rel => exact ⟨k + 1, M2, Ms ++ M2, by omega, by go_num, by rw [HTK.out]; exact HJ4.out, HW4.out, fun q hq => by simp [hq], HC4.out⟩
            case measure => simp [intOf]; omega
          · have HJX := Lib.hid hjx; clear hjx
            gi_wp2_with fail
            refine bodyPost_ret (results_none rfl _ _ _) rfl ?_
            exact ⟨⟨_, rfl⟩, .inr ⟨_, HPF.out, HJX.out⟩⟩
    · have hkl : k = rl := by omega
      have htk : reductL (p.rules.take k) ms = reductL p.rules ms := by rw [hkl, HR0.out.len, List.take_length]
      rw [htk] at hj
      have HJ1 := Lib.hid hj; clear hj
      have HBR := Lib.hid hBr; clear hBr
      have HKW := Lib.hid hkw; clear hkw
      have HM1 := Lib.hid hM1; clear hM1
      have HR1 := Lib.hid hR1; clear hR1
      have HKL := Lib.hid hkl; clear hkl
      have HTK := Lib.hid htk; clear htk
      have HSUB := Lib.hid hsub; clear hsub
      gi_wp2_with fail
      go_end0
      exact ⟨⟨_, rfl⟩, .inl ⟨_, HJ1.out⟩⟩
end Go.Proofs.YtdkjanbfheehoaaGreat

/- The law GraphHeads: it answers true and changes nothing that was there. -/
import Derived.Test.YtbfbkpoakmnlpaaGV
import Derived.Test.YtbfbkpoakmnlpaaReb
import Derived.Test.YtbfbkpoakmnlpaaHdp
import Derived.Test.YtbfbkpoakmnlpaaRat
import Derived.Test.YtbfbkpoakmnlpaaGS
namespace Go.Proofs.Ytbfbkpoakmnlpaa
open Go.RowKit

theorem map_take_snoc {α β : Type} (f : α → β) {l : List α} {k : Nat} {x : α} (h : l[k]? = some x) : (l.take (k + 1)).map f = (l.take k).map f ++ [f x] := by rw [take_snoc' h]; simp
set_option maxRecDepth 100000 in
set_option maxHeartbeats 8000000 in
theorem graphHeads_law (p : GProg) (nA : Option Addr) (nl nc : Nat) (sA : Option Addr) (sl sc : Nat) (rA : Option Addr) (rl rc : Nat) (mA : Option Addr) (ml mc : Nat) (w : World) (hp : ProgIn w p nA nl nc sA sl sc rA rl rc mA ml mc) :
    Calls Try.prog 6 #[.agg #[.int .i64 p.n, .slice nA nl nc, .slice sA sl sc, .slice rA rl rc, .slice mA ml mc]] w fun e w' => e = .returned (.bool true) ∧ Below w.heap.size w w' := by
  have cSm := fun W (hb : Below w.heap.size w W) => fine_any p nA nl nc sA sl sc rA rl rc mA ml mc W (hp.ext hb)
  have cA := awake21_any
  have hx0 := Blk.new w 27 #[.int .i64 p.n, .slice nA nl nc, .slice sA sl sc, .slice rA rl rc, .slice mA ml mc]
  cases hq : fineB p with
  | false =>
    rw [hq] at cSm
    have HP := Lib.hid hp; clear hp
    have CSM := Lib.hid cSm; clear cSm
    have CA := Lib.hid cA; clear cA
    have HX0 := Lib.hid hx0; clear hx0
    have HQ := Lib.hid hq; clear hq
    go_enter Try.func6, Try.ntmps6
    go_wp2_with fail
    go_fit (CSM.out _ (bel_alloc _ _)); rintro e w1 ⟨rfl, hb1⟩
    have HBW := Lib.hid (bel_trans (bel_alloc _ _) hb1)
    have HX := Lib.hid (HX0.out.bel hb1)
    clear hb1
    go_wp2_with fail
    go_fit (CA.out _); rintro e wz ⟨rfl, hbz⟩
    have HB3 := Lib.hid (bel_trans HBW.out hbz)
    clear hbz
    go_wp2_with fail
    go_ret
    exact ⟨rfl, HB3.out⟩
  | true =>
    rw [hq] at cSm
    obtain ⟨hfew, hv⟩ := fine_is hq
    have hpi := validE_is hv
    have hn0 : 0 ≤ p.n := (namedB_n hpi.named).1
    have hn12 := fine_n hfew
    have hrl := fine_rules hfew
    have cFr := fun W (hb : Below w.heap.size w W) => free_any p nA nl nc sA sl sc rA rl rc mA ml mc W (hp.ext hb) hv
    have cTi := fun W (hb : Below w.heap.size w W) => tight_any p nA nl nc sA sl sc rA rl rc mA ml mc W (hp.ext hb) hv
    have cRe := fun W (hb : Below w.heap.size w W) => reach_any p nA nl nc sA sl sc rA rl rc mA ml mc W (hp.ext hb) hv hn12
    obtain ⟨hfw, htf, hqv, hqf⟩ := heads_law hv
    have hTl := rchL_len p
    have hTw := rchL_low hpi hn12
    obtain ⟨N, hN⟩ : ∃ N : Nat, N = p.n.toNat := ⟨_, rfl⟩
    have hNn : p.n = (N : Int) := by omega
    have hN12 : N ≤ 12 := by omega
    rw [← hN] at cRe hTl
    rw [hNn] at cSm cFr cTi cRe hx0
    rw [hNn]
    generalize tightB p = ti at *
    generalize freeB p = fr at *
    generalize rchL p = T at *
    have HP := Lib.hid hp; clear hp
    have CSM := Lib.hid cSm; clear cSm
    have CA := Lib.hid cA; clear cA
    have HX0 := Lib.hid hx0; clear hx0
    have HQ := Lib.hid hq; clear hq
    have HV := Lib.hid hv; clear hv
    have HPI := Lib.hid hpi; clear hpi
    have HFEW := Lib.hid hfew; clear hfew
    have HRL := Lib.hid hrl; clear hrl
    have CFR := Lib.hid cFr; clear cFr
    have CTI := Lib.hid cTi; clear cTi
    have CRE := Lib.hid cRe; clear cRe
    have HFW := Lib.hid hfw; clear hfw
    have HTF := Lib.hid htf; clear htf
    have HQV := Lib.hid hqv; clear hqv
    have HQF := Lib.hid hqf; clear hqf
    have HTL := Lib.hid hTl; clear hTl
    have HTW := Lib.hid hTw; clear hTw
    have HN := Lib.hid hN; clear hN
    go_enter Try.func6, Try.ntmps6
    go_wp2_with fail
    go_fit (CSM.out _ (bel_alloc _ _)); rintro e w1 ⟨rfl, hb1⟩
    have HBW := Lib.hid (bel_trans (bel_alloc _ _) hb1)
    have HX := Lib.hid (HX0.out.bel hb1)
    clear hb1
    obtain ⟨p0, p1, p2, p3, p4, p5⟩ := pcells HX.out
    go_wp2_with fail
    go_fit (CFR.out _ HBW.out); rintro e w2 ⟨rfl, hb⟩
    have HBW' := Lib.hid (bel_trans HBW.out hb)
    have HX' := Lib.hid (HX.out.bel hb)
    clear HBW HX
    have HBW := HBW'
    have HX := HX'
    clear HBW' HX'
    clear p0 p1 p2 p3 p4 p5
    obtain ⟨p0, p1, p2, p3, p4, p5⟩ := pcells HX.out
    go_wp2_with fail
    go_fit (CTI.out _ HBW.out); rintro e w3 ⟨rfl, hb⟩
    have HBW' := Lib.hid (bel_trans HBW.out hb)
    have HX' := Lib.hid (HX.out.bel hb)
    clear HBW HX
    have HBW := HBW'
    have HX := HX'
    clear HBW' HX'
    clear p0 p1 p2 p3 p4 p5
    obtain ⟨p0, p1, p2, p3, p4, p5⟩ := pcells HX.out
    go_wp2_with fail
    go_fit (CRE.out _ HBW.out); rintro e w4 ⟨ub, rfl, hU, hub, hb⟩
    have hubw : w.heap.size < ub := by have := HX.out.lt; omega
    have HU := Lib.hid hU; clear hU
    have HBW' := Lib.hid (bel_trans HBW.out hb)
    have HX' := Lib.hid (HX.out.bel hb)
    clear HBW HX
    have HBW := HBW'
    have HX := HX'
    clear HBW' HX'
    clear p0 p1 p2 p3 p4 p5
    obtain ⟨p0, p1, p2, p3, p4, p5⟩ := pcells HX.out
    go_wp2_with fail
    have hg5 := Blk.new w4 27 #[.int .i64 (N : Int), .slice nA nl nc, .slice sA sl sc, .slice none 0 0, .slice mA ml mc]
    have hbl5 := bel_trans HBW.out (bel_alloc w4 (.cells #[.int .i64 (N : Int), .slice nA nl nc, .slice sA sl sc, .slice none 0 0, .slice mA ml mc] 27))
    have hu5 := HU.out.alloc (.cells #[.int .i64 (N : Int), .slice nA nl nc, .slice sA sl sc, .slice none 0 0, .slice mA ml mc] 27)
    have hx5 := HX.out.alloc (.cells #[.int .i64 (N : Int), .slice nA nl nc, .slice sA sl sc, .slice none 0 0, .slice mA ml mc] 27)
    have hgs : w4.heap.size + 1 = (w4.alloc (.cells #[.int .i64 (N : Int), .slice nA nl nc, .slice sA sl sc, .slice none 0 0, .slice mA ml mc] 27)).heap.size := by simp
    have hwg : w.heap.size ≤ w4.heap.size := HBW.out.size
    have hug : ub < w4.heap.size := HU.out.lt
    have hxg : w.heap.size < w4.heap.size := HX.out.lt
    clear p0 p1 p2 p3 p4 p5
    generalize w4.alloc (.cells #[.int .i64 (N : Int), .slice nA nl nc, .slice sA sl sc, .slice none 0 0, .slice mA ml mc] 27) = w5 at *
    obtain ⟨g, hgd⟩ : ∃ g, g = w4.heap.size := ⟨_, rfl⟩
    rw [← hgd] at hg5 hgs hwg hug hxg ⊢
    clear hgd hub
    have hrlen := HP.out.rules.len
    have hrl16 : rl ≤ 16 := by have := HRL.out; omega
    have HG5 := Lib.hid hg5; clear hg5
    have HBL5 := Lib.hid hbl5; clear hbl5
    have HU5 := Lib.hid hu5; clear hu5
    have HX5 := Lib.hid hx5; clear hx5
    have HGS := Lib.hid hgs; clear hgs
    have HRLEN := Lib.hid hrlen; clear hrlen
    go_loopw [8, 53] (fun wn t wr => ∃ (k : Nat) (v : Value), k ≤ rl ∧ wn = .bool ((p.rules.take k).all (wantR T)) ∧ t = .int .i64 (k : Int) ∧ Blk wr g 27 #[.int .i64 (N : Int), .slice nA nl nc, .slice sA sl sc, v, .slice mA ml mc] ∧ Kept [g] w5 wr ∧ OwnB ruleR 54 w (g + 1) wr v ((p.rules.take k).map chR)) (fun _ t _ => rl - (intOf t).toNat)
    case atStart => exact ⟨0, _, Nat.zero_le _, rfl, rfl, HG5.out, Kept.refl _ _, OwnB.nil HBL5.out (by omega) (by rw [HGS.out]; exact Nat.le_refl _)⟩
    case round =>
      obtain ⟨wo, rfl⟩ : ∃ wo : World, wo = wr := ⟨_, rfl⟩
      obtain ⟨k, v, hk, rfl, rfl, hbg, hkp, ho⟩ := hrel
      by_cases hlt : k < rl
      · obtain ⟨x, hx, -⟩ := HP.out.rules.drop hlt
        obtain ⟨rb, ro, hA, hl, hc, bA, bl, bc, wA, wl, wc, rfl, hrb, e0, e1, e2, e3, e4, e5, i1, i2, i3, i4⟩ := HP.out.rules.rule hx
        have hxr := inc_mem (HPI.out.rules x (List.mem_of_getElem? hx)).head
        have HR := Lib.hid (show RuleIn w x hA hl hc bA bl bc wA wl wc from ⟨i1, i2, i3, i4⟩)
        have hbwr := ho.below
        have d0 := (hbwr.cell (World.block_lt_of_cell? _ _ e0)).trans e0
        have d1 := (hbwr.cell (World.block_lt_of_cell? _ _ e1)).trans e1
        have d2 := (hbwr.cell (World.block_lt_of_cell? _ _ e2)).trans e2
        have d3 := (hbwr.cell (World.block_lt_of_cell? _ _ e3)).trans e3
        have d4 := (hbwr.cell (World.block_lt_of_cell? _ _ e4)).trans e4
        have d5 := (hbwr.cell (World.block_lt_of_cell? _ _ e5)).trans e5
        have hhl := i1.len
        have hhc := i1.cap
        have hhm := i1.max
        have hup : (p.rules.take (k + 1)).all (wantR T) = ((p.rules.take k).all (wantR T) && wantR T x) := by rw [take_snoc' hx]; simp
        have hms := map_take_snoc chR hx
        have hwr : wantR T x = (List.range hl).all fun i => (List.range i).all fun j => pairB T x.choice (x.head.getD i 0) (x.head.getD j 0) := by unfold wantR; rw [hhl]
        obtain ⟨ch, hch⟩ : ∃ ch, ch = x.choice := ⟨_, rfl⟩
        have hchR : chR x = ⟨ch || decide (1 < hl), x.head, x.sum, x.bound, x.body, x.w⟩ := by unfold chR; rw [hch, hhl]
        rw [← hch] at hwr d0
        clear e0 e1 e2 e3 e4 e5 i1 i2 i3 i4 hch
        generalize hac : (p.rules.take k).all (wantR T) = ac at *
        have hBz := ho.size
        have k0 : (0 : Int) ≤ (k : Int) := by omega
        have k1 : (k : Int) < (rl : Int) := by omega
        have hx6 : Blk (wo.alloc (.cells #[.bool ch, .slice hA hl hc, .bool x.sum, .int .i64 x.bound, .slice bA bl bc, .slice wA wl wc] 54)) wo.heap.size 54 #[.bool ch, .slice hA hl hc, .bool x.sum, .int .i64 x.bound, .slice bA bl bc, .slice wA wl wc] := Blk.new _ _ _
        have ho6 := ho.bel (bel_alloc wo (.cells #[.bool ch, .slice hA hl hc, .bool x.sum, .int .i64 x.bound, .slice bA bl bc, .slice wA wl wc] 54))
        have hbg6 := hbg.alloc (.cells #[.bool ch, .slice hA hl hc, .bool x.sum, .int .i64 x.bound, .slice bA bl bc, .slice wA wl wc] 54)
        have hkp6 := hkp.bel (bel_alloc wo (.cells #[.bool ch, .slice hA hl hc, .bool x.sum, .int .i64 x.bound, .slice bA bl bc, .slice wA wl wc] 54))
        have hsz6 : wo.heap.size < (wo.alloc (.cells #[.bool ch, .slice hA hl hc, .bool x.sum, .int .i64 x.bound, .slice bA bl bc, .slice wA wl wc] 54)).heap.size := by simp
        have hw5 : w5.heap.size ≤ wo.heap.size := hkp.size
        have hho : ∀ q, v.ownBlock = some q → q ≠ wo.heap.size := fun q hq => by have := (ho.lt hq).2; omega
        clear hbg hkp ho
        have HX := Lib.hid hx; clear hx
        have HXR := Lib.hid hxr; clear hxr
        have HBWR := Lib.hid hbwr; clear hbwr
        have HUP := Lib.hid hup; clear hup
        have HMS := Lib.hid hms; clear hms
        have HWR := Lib.hid hwr; clear hwr
        have HCHR := Lib.hid hchR; clear hchR
        have HX6 := Lib.hid hx6; clear hx6
        have HO6 := Lib.hid ho6; clear ho6
        have HBG6 := Lib.hid hbg6; clear hbg6
        have HKP6 := Lib.hid hkp6; clear hkp6
        have HHO := Lib.hid hho; clear hho
        have HAC := Lib.hid hac; clear hac
        have HHL := Lib.hid hhl; clear hhl
        go_wp2_with fail
        clear d0 d1 d2 d3 d4 d5
        generalize wo.alloc (.cells #[.bool ch, .slice hA hl hc, .bool x.sum, .int .i64 x.bound, .slice bA bl bc, .slice wA wl wc] 54) = w6 at *
        go_loopw [8, 60] (fun wn t wr2 => ∃ i : Nat, i ≤ hl ∧ wn = .bool (ac && (List.range i).all fun i => (List.range i).all fun j => pairB T ch (x.head.getD i 0) (x.head.getD j 0)) ∧ t = .int .i64 (i : Int) ∧ wr2 = w6) (fun _ t _ => hl - (intOf t).toNat)
        case atStart => exact ⟨0, Nat.zero_le _, by simp, rfl, rfl⟩
        case round =>
          obtain ⟨i, hi2, rfl, rfl, rfl⟩ := hrel
          obtain ⟨w6, rfl⟩ : ∃ w6 : World, w6 = wr := ⟨_, rfl⟩
          have x0 : w6.cell? ⟨wo.heap.size, 0, none⟩ = some (.bool ch) := HX6.out.cell 0
          have x1 : w6.cell? ⟨wo.heap.size, 1, none⟩ = some (.slice hA hl hc) := HX6.out.cell 1
          have x2 : w6.cell? ⟨wo.heap.size, 2, none⟩ = some (.bool x.sum) := HX6.out.cell 2
          have x3 : w6.cell? ⟨wo.heap.size, 3, none⟩ = some (.int .i64 x.bound) := HX6.out.cell 3
          have x4 : w6.cell? ⟨wo.heap.size, 4, none⟩ = some (.slice bA bl bc) := HX6.out.cell 4
          have x5 : w6.cell? ⟨wo.heap.size, 5, none⟩ = some (.slice wA wl wc) := HX6.out.cell 5
          have i0 : (0 : Int) ≤ (i : Int) := by omega
          generalize haw : (ac && (List.range i).all fun i => (List.range i).all fun j => pairB T ch (x.head.getD i 0) (x.head.getD j 0)) = aw at *
          by_cases hlt2 : i < hl
          · have i1 : (i : Int) < (hl : Int) := by omega
            have hcw : Below w.heap.size w w6 := HO6.out.below
            have hh6 := HR.out.head.ext hcw
            obtain ⟨y, hy, hd⟩ := hh6.drop hlt2
            obtain ⟨q, qo, rfl, _, hm, hy64⟩ := hh6.int hy
            have hyr := HXR.out y (List.mem_of_getElem? hy)
            obtain ⟨a, rfl⟩ : ∃ a : Nat, y = (a : Int) := ⟨y.toNat, by omega⟩
            have hga : x.head.getD i 0 = (a : Int) := by rw [List.getD_eq_getElem?_getD, hy]; rfl
            have hu6 := HKP6.out.blk HU5.out (by simp; omega)
            have hta : w6.cell? ⟨ub, a, none⟩ = some (.int .u64 (nthN T a : Int)) := by rw [hu6.cell]; exact u64C_at (by have := HTL.out; omega)
            have HH6 := Lib.hid hh6; clear hh6
            have HU6 := Lib.hid hu6; clear hu6
            have HY := Lib.hid hy; clear hy
            have HYR := Lib.hid hyr; clear hyr
            have HGA := Lib.hid hga; clear hga
            have HCW := Lib.hid hcw; clear hcw
            clear hd hy64
            go_wp2_with fail
            go_loopw [8, 70] (fun wn t wr3 => ∃ j : Nat, j ≤ i ∧ wn = .bool (aw && (List.range j).all fun j => pairB T ch (a : Int) (x.head.getD j 0)) ∧ t = .int .i64 (j : Int) ∧ wr3 = w6) (fun _ t _ => i - (intOf t).toNat)
            case atStart => exact ⟨0, Nat.zero_le _, by simp, rfl, rfl⟩
            case round =>
              obtain ⟨j, hj, rfl, rfl, rfl⟩ := hrel
              obtain ⟨w6, rfl⟩ : ∃ w6 : World, w6 = wr := ⟨_, rfl⟩
              by_cases hlt3 : j < i
              · have j0 : (0 : Int) ≤ (j : Int) := by omega
                have j1 : (j : Int) < (i : Int) := by omega
                obtain ⟨z, hz, hd⟩ := HH6.out.drop (show j < hl by omega)
                obtain ⟨_, _, e2, _, hm2, hz64⟩ := HH6.out.int hz
                cases e2
                have hzr := HXR.out z (List.mem_of_getElem? hz)
                obtain ⟨b, rfl⟩ : ∃ b : Nat, z = (b : Int) := ⟨z.toNat, by omega⟩
                have hgb : x.head.getD j 0 = (b : Int) := by rw [List.getD_eq_getElem?_getD, hz]; rfl
                have hyr := HYR.out
                have htb : w6.cell? ⟨ub, b, none⟩ = some (.int .u64 (nthN T b : Int)) := by rw [HU6.out.cell]; exact u64C_at (by have := HTL.out; omega)
                have hnx : (aw && (List.range (j + 1)).all fun j => pairB T ch (a : Int) (x.head.getD j 0)) = ((aw && (List.range j).all fun j => pairB T ch (a : Int) (x.head.getD j 0)) && pairB T ch (a : Int) (b : Int)) := by rw [List.range_succ, List.all_append, Bool.and_assoc, List.all_cons, List.all_nil, Bool.and_true, hgb]
                generalize (aw && (List.range j).all fun j => pairB T ch (a : Int) (x.head.getD j 0)) = aj at *
                have hpb : pairB T ch (a : Int) (b : Int) = (ch || (!(nthN T a).testBit b || !(nthN T b).testBit a)) := rfl
                have z1 := and_zero (b := b) (show nthN T a < 8192 from HTW.out a)
                have z2 := and_zero (b := a) (show nthN T b < 8192 from HTW.out b)
                rw [hpb] at hnx
                clear hpb hd hz64
                obtain ⟨c1, hc1⟩ : ∃ c1, c1 = (nthN T a).testBit b := ⟨_, rfl⟩
                obtain ⟨c2, hc2⟩ : ∃ c2, c2 = (nthN T b).testBit a := ⟨_, rfl⟩
                rw [← hc1] at z1 hnx
                rw [← hc2] at z2 hnx
                have a0 : (0 : Int) ≤ (a : Int) := by omega
                have a1 : (a : Int) < (N : Int) + 1 := by omega
                have b0 : (0 : Int) ≤ (b : Int) := by omega
                have b1 : (b : Int) < (N : Int) + 1 := by omega
                clear hc1 hc2
                have HZ := Lib.hid hz; clear hz
                have HNX := Lib.hid hnx; clear hnx
                have HGB := Lib.hid hgb; clear hgb
                have HZR := Lib.hid hzr; clear hzr
                have HYR := Lib.hid hyr; clear hyr
                cases aj with
                | false =>
                  go_wp2_with fail
                  go_roundw
                  case rel => exact ⟨j + 1, by omega, by rw [HNX.out]; simp, by go_num, trivial⟩
                  case measure => simp [intOf]; omega
                | true =>
                  cases ch with
                  | true =>
                    go_wp2_with fail
                    go_roundw
                    case rel => exact ⟨j + 1, by omega, by rw [HNX.out]; simp, by go_num, trivial⟩
                    case measure => simp [intOf]; omega
                  | false =>
                    cases c1 with
                    | false =>
                      simp only [Bool.not_false] at z1
                      go_wp2_with fail
                      go_roundw
                      case rel => exact ⟨j + 1, by omega, by rw [HNX.out]; simp, by go_num, trivial⟩
                      case measure => simp [intOf]; omega
                    | true =>
                      simp only [Bool.not_true] at z1
                      go_wp2_with fail
                      go_roundw
                      case rel => exact ⟨j + 1, by omega, by rw [HNX.out]; simp, by go_num, trivial⟩
                      case measure => simp [intOf]; omega
              · have hje : j = i := by omega
                subst hje
                have hnx : (ac && (List.range (j + 1)).all fun i => (List.range i).all fun j => pairB T ch (x.head.getD i 0) (x.head.getD j 0)) = (aw && (List.range j).all fun k => pairB T ch (a : Int) (x.head.getD k 0)) := by
                  rw [List.range_succ, List.all_append, ← Bool.and_assoc, haw, List.all_cons, List.all_nil, Bool.and_true, HGA.out]
                rw [← hnx]
                have HAW := Lib.hid haw; clear haw
                go_wp2_with fail
                go_roundw
                case rel => exact ⟨j + 1, by omega, rfl, by go_num, trivial⟩
                case measure => simp [intOf]; omega
          · have hie : i = hl := by omega
            subst hie
            have hak : (p.rules.take (k + 1)).all (wantR T) = aw := by rw [HUP.out, HWR.out, haw]
            have z0 := HX6.out.frozen 0
            have hk16 : ((p.rules.take k).map chR).length ≤ 16 := by rw [List.length_map]; have := List.length_take_le k p.rules; have := HRL.out; omega
            have HAW := Lib.hid haw; clear haw
            have HAK := Lib.hid hak; clear hak
            have HK16 := Lib.hid hk16; clear hk16
            by_cases h1 : 1 < i
            · have h1' : (1 : Int) < (i : Int) := by omega
              have kx : Kept [wo.heap.size] w6 (w6.setCell ⟨wo.heap.size, 0, none⟩ (.bool true)) := (Kept.refl _ _).set (.inl (by simp)) _
              have hx7 : Blk (w6.setCell ⟨wo.heap.size, 0, none⟩ (.bool true)) wo.heap.size 54 #[.bool true, .slice hA i hc, .bool x.sum, .int .i64 x.bound, .slice bA bl bc, .slice wA wl wc] := HX6.out.set_ 0 (.bool true)
              have ho7 := HO6.out.kept kx (fun q hq => by
                have e : q = wo.heap.size := by simpa using hq
                subst e
                exact ⟨by omega, fun e => HHO.out _ e rfl⟩)
              have hg7 := HBG6.out.far (p := ⟨wo.heap.size, 0, none⟩) (by simp; omega) (.bool true)
              have hk7 : Kept [g] w5 (w6.setCell ⟨wo.heap.size, 0, none⟩ (.bool true)) := HKP6.out.thn kx (fun q hq => by
                have e : q = wo.heap.size := by simpa using hq
                exact .inr (by omega))
              have hch7 : chR x = ⟨true, x.head, x.sum, x.bound, x.body, x.w⟩ := by rw [HCHR.out, decide_eq_true h1, Bool.or_true]
              go_upto_region 25 with fail
              clear kx x0 x1 x2 x3 x4 x5 z0
              generalize w6.setCell ⟨wo.heap.size, 0, none⟩ (.bool true) = w7 at *
              obtain ⟨c7, hc7⟩ : ∃ c7, c7 = true := ⟨_, rfl⟩
              rw [← hc7] at hx7 hch7
              clear hc7
              have HX7 := Lib.hid hx7; clear hx7
              have HO7 := Lib.hid ho7; clear ho7
              have HG7 := Lib.hid hg7; clear hg7
              have HK7 := Lib.hid hk7; clear hk7
              have HCH7 := Lib.hid hch7; clear hch7
              have y0 : w7.cell? ⟨wo.heap.size, 0, none⟩ = some (.bool c7) := HX7.out.cell 0
              have y1 : w7.cell? ⟨wo.heap.size, 1, none⟩ = some (.slice hA i hc) := HX7.out.cell 1
              have y2 : w7.cell? ⟨wo.heap.size, 2, none⟩ = some (.bool x.sum) := HX7.out.cell 2
              have y3 : w7.cell? ⟨wo.heap.size, 3, none⟩ = some (.int .i64 x.bound) := HX7.out.cell 3
              have y4 : w7.cell? ⟨wo.heap.size, 4, none⟩ = some (.slice bA bl bc) := HX7.out.cell 4
              have y5 : w7.cell? ⟨wo.heap.size, 5, none⟩ = some (.slice wA wl wc) := HX7.out.cell 5
              have g3 : w7.cell? ⟨g, 3, none⟩ = some v := HG7.out.cell 3
              have hlk := HK16.out
              obtain ⟨v', w8, hrun, ho8, hg8, hat8⟩ := HO7.out.app1 ety_rule [.bool c7, .slice hA i hc, .bool x.sum, .int .i64 x.bound, .slice bA bl bc, .slice wA wl wc] (chR x) (by rw [HCH7.out]; exact ⟨_, _, _, rfl, ints_of HR.out.head, HR.out.bound, ints_of HR.out.body, ints_of HR.out.wt⟩) (by omega) 24
              rw [← HMS.out] at ho8
              have n1 : some g ≠ v.ownBlock := fun e => by have := (HO7.out.lt e.symm).1; omega
              have kb8 := HG7.out.grown hg8 n1
              have q3 : w8.cell? ⟨g, 3, none⟩ = some v := kb8.cell 3
              have z3 : w8.frozen? ⟨g, 3, none⟩ = false := kb8.frozen 3
              have hb9 : Blk (w8.setCell ⟨g, 3, none⟩ v') g 27 #[.int .i64 (N : Int), .slice nA nl nc, .slice sA sl sc, v', .slice mA ml mc] := kb8.set_ 3 v'
              have ho9 := ho8.set (p := ⟨g, 3, none⟩) hwg (Nat.lt_succ_self g) v'
              have hk9 : Kept [g] w5 (w8.setCell ⟨g, 3, none⟩ v') := ((HK7.out.grown hg8 (fun q hq => .inr (by have := (HO7.out.lt hq).1; have := HGS.out; omega)))).set (.inl (by simp)) _
              obtain ⟨oA, oc, ev, -⟩ := ho8.sl (by rw [List.length_map]; have := List.length_take_le (k + 1) p.rules; have := HRL.out; omega)
              subst ev
              generalize ((p.rules.take (k + 1)).map chR).length = n9 at *
              clear hlk
              have HRUN := Lib.hid hrun; clear hrun
              have HO8 := Lib.hid ho8; clear ho8
              have HG8 := Lib.hid hg8; clear hg8
              have HAT8 := Lib.hid hat8; clear hat8
              have KB8 := Lib.hid kb8; clear kb8
              have HB9 := Lib.hid hb9; clear hb9
              have HO9 := Lib.hid ho9; clear ho9
              have HK9 := Lib.hid hk9; clear hk9
              go_wp2_with (at_builtin; refine wpList_append_run rfl _ _ _ rfl _ _ rfl rfl _ _ HRUN.out ?_)
              go_roundw
              case rel => exact ⟨k + 1, _, by omega, by rw [HAK.out], by go_num, HB9.out, HK9.out, HO9.out⟩
              case measure => simp [intOf]; omega
            · have h1' : ¬ (1 : Int) < (i : Int) := by omega
              have hch7 : chR x = ⟨ch, x.head, x.sum, x.bound, x.body, x.w⟩ := by rw [HCHR.out, decide_eq_false h1, Bool.or_false]
              go_upto_region 25 with fail
              clear x0 x1 x2 x3 x4 x5 z0
              obtain ⟨c7, rfl⟩ : ∃ c7, c7 = ch := ⟨_, rfl⟩
              obtain ⟨w7, rfl⟩ : ∃ w7, w7 = w6 := ⟨_, rfl⟩
              have HX7 := HX6
              have HO7 := HO6
              have HG7 := HBG6
              have HK7 := HKP6
              have HCH7 := Lib.hid hch7; clear hch7
              clear HX6 HO6 HBG6 HKP6
              have y0 : w7.cell? ⟨wo.heap.size, 0, none⟩ = some (.bool c7) := HX7.out.cell 0
              have y1 : w7.cell? ⟨wo.heap.size, 1, none⟩ = some (.slice hA i hc) := HX7.out.cell 1
              have y2 : w7.cell? ⟨wo.heap.size, 2, none⟩ = some (.bool x.sum) := HX7.out.cell 2
              have y3 : w7.cell? ⟨wo.heap.size, 3, none⟩ = some (.int .i64 x.bound) := HX7.out.cell 3
              have y4 : w7.cell? ⟨wo.heap.size, 4, none⟩ = some (.slice bA bl bc) := HX7.out.cell 4
              have y5 : w7.cell? ⟨wo.heap.size, 5, none⟩ = some (.slice wA wl wc) := HX7.out.cell 5
              have g3 : w7.cell? ⟨g, 3, none⟩ = some v := HG7.out.cell 3
              have hlk := HK16.out
              obtain ⟨v', w8, hrun, ho8, hg8, hat8⟩ := HO7.out.app1 ety_rule [.bool c7, .slice hA i hc, .bool x.sum, .int .i64 x.bound, .slice bA bl bc, .slice wA wl wc] (chR x) (by rw [HCH7.out]; exact ⟨_, _, _, rfl, ints_of HR.out.head, HR.out.bound, ints_of HR.out.body, ints_of HR.out.wt⟩) (by omega) 24
              rw [← HMS.out] at ho8
              have n1 : some g ≠ v.ownBlock := fun e => by have := (HO7.out.lt e.symm).1; omega
              have kb8 := HG7.out.grown hg8 n1
              have q3 : w8.cell? ⟨g, 3, none⟩ = some v := kb8.cell 3
              have z3 : w8.frozen? ⟨g, 3, none⟩ = false := kb8.frozen 3
              have hb9 : Blk (w8.setCell ⟨g, 3, none⟩ v') g 27 #[.int .i64 (N : Int), .slice nA nl nc, .slice sA sl sc, v', .slice mA ml mc] := kb8.set_ 3 v'
              have ho9 := ho8.set (p := ⟨g, 3, none⟩) hwg (Nat.lt_succ_self g) v'
              have hk9 : Kept [g] w5 (w8.setCell ⟨g, 3, none⟩ v') := ((HK7.out.grown hg8 (fun q hq => .inr (by have := (HO7.out.lt hq).1; have := HGS.out; omega)))).set (.inl (by simp)) _
              obtain ⟨oA, oc, ev, -⟩ := ho8.sl (by rw [List.length_map]; have := List.length_take_le (k + 1) p.rules; have := HRL.out; omega)
              subst ev
              generalize ((p.rules.take (k + 1)).map chR).length = n9 at *
              clear hlk
              have HRUN := Lib.hid hrun; clear hrun
              have HO8 := Lib.hid ho8; clear ho8
              have HG8 := Lib.hid hg8; clear hg8
              have HAT8 := Lib.hid hat8; clear hat8
              have KB8 := Lib.hid kb8; clear kb8
              have HB9 := Lib.hid hb9; clear hb9
              have HO9 := Lib.hid ho9; clear ho9
              have HK9 := Lib.hid hk9; clear hk9
              go_wp2_with (at_builtin; refine wpList_append_run rfl _ _ _ rfl _ _ rfl rfl _ _ HRUN.out ?_)
              go_roundw
              case rel => exact ⟨k + 1, _, by omega, by rw [HAK.out], by go_num, HB9.out, HK9.out, HO9.out⟩
              case measure => simp [intOf]; omega
      · have hke : k = rl := by omega
        subst hke
        have hrlen2 := HRLEN.out
        rw [List.take_of_length_le (by omega)] at ho ⊢
        clear hrlen2
        rw [← HFW.out]
        have hbw9 := ho.below
        have hpm := HP.out.ext hbw9
        obtain ⟨vA, vc, ev, hs⟩ := ho.sl (by rw [List.length_map]; have := HRL.out; omega)
        subst ev
        have hq2 : ProgIn wo (chP p) nA nl nc sA sl sc vA (p.rules.map chR).length vc mA ml mc := ⟨hpm.n, hpm.names, hpm.shown, hs, hpm.min⟩
        have cQ := free_any (chP p) nA nl nc sA sl sc vA (p.rules.map chR).length vc mA ml mc wo hq2 HQV.out
        rw [HQF.out, show (chP p).n = (N : Int) from hNn] at cQ
        generalize (p.rules.map chR).length = n9 at *
        have c0 := hbg.cell 0
        have c1 := hbg.cell 1
        have c2 := hbg.cell 2
        have c3 := hbg.cell 3
        have c4 := hbg.cell 4
        have HBW9 := Lib.hid hbw9; clear hbw9
        have HPM := Lib.hid hpm; clear hpm
        have HS := Lib.hid hs; clear hs
        have HQ2 := Lib.hid hq2; clear hq2
        have CQ := Lib.hid cQ; clear cQ
        have HBG := Lib.hid hbg; clear hbg
        have HKP := Lib.hid hkp; clear hkp
        have HO := Lib.hid ho; clear ho
        go_wp2_with fail
        go_fit CQ.out; rintro e wq ⟨rfl, hb⟩
        have HB9 := Lib.hid (bel_trans HBW9.out hb)
        clear hb c0 c1 c2 c3 c4
        cases fr with
        | true =>
          cases ti with
          | true =>
            go_wp2_with fail
            go_fit (CA.out _); rintro e wz ⟨rfl, hbz⟩
            have HB10 := Lib.hid (bel_trans HB9.out hbz)
            clear hbz
            go_wp2_with fail
            go_ret
            exact ⟨rfl, HB10.out⟩
          | false =>
            go_wp2_with fail
            go_fit (CA.out _); rintro e wz ⟨rfl, hbz⟩
            have HB10 := Lib.hid (bel_trans HB9.out hbz)
            clear hbz
            go_wp2_with fail
            go_ret
            exact ⟨rfl, HB10.out⟩
        | false =>
          cases ti with
          | true => exact absurd (HTF.out rfl) (by decide)
          | false =>
            go_wp2_with fail
            go_fit (CA.out _); rintro e wz ⟨rfl, hbz⟩
            have HB10 := Lib.hid (bel_trans HB9.out hbz)
            clear hbz
            go_wp2_with fail
            go_ret
            exact ⟨rfl, HB10.out⟩
end Go.Proofs.Ytbfbkpoakmnlpaa

/- The law GraphParts: it answers true and changes nothing that was there. -/
import Derived.Test.YtbfbkpoakmnlpaaGV
import Derived.Test.YtbfbkpoakmnlpaaReb
import Derived.Test.YtbfbkpoakmnlpaaGpp
import Derived.Deep.QuietTactic
import Derived.BigQuiet
namespace Go.Proofs.Ytbfbkpoakmnlpaa
open Go.RowKit

/-- How often each number up to n comes up. -/
def metL (n : Nat) (xs : List Int) : List Int := (List.range (n + 1)).map fun (a : Nat) => (xs.count (a : Int) : Int)
theorem metL_len (n : Nat) (xs : List Int) : (metL n xs).length = n + 1 := by unfold metL; simp
theorem metL_nil (n : Nat) : metL n [] = List.replicate (n + 1) 0 := by
  unfold metL
  apply List.ext_getElem
  · simp
  · intro i h1 h2; simp
theorem metL_at {n a : Nat} (h : a ≤ n) (xs : List Int) : (metL n xs)[a]? = some (xs.count (a : Int) : Int) := by
  unfold metL
  rw [List.getElem?_map, List.getElem?_range (by omega)]; rfl
theorem metL_snoc {n a : Nat} (xs : List Int) : (metL n xs).set a ((xs.count (a : Int) : Int) + 1) = metL n (xs ++ [(a : Int)]) := by
  unfold metL
  apply List.ext_getElem
  · simp
  · intro i h1 h2
    rw [List.getElem_set]
    simp only [List.getElem_map, List.getElem_range, List.count_append]
    split
    · rename_i e; subst e; simp
    · rename_i e
      rw [List.count_eq_zero_of_not_mem (a := (i : Int)) (l := [(a : Int)]) (by simp; omega)]; simp
set_option maxRecDepth 100000 in
set_option maxHeartbeats 8000000 in
theorem graphParts_law (p : GProg) (nA : Option Addr) (nl nc : Nat) (sA : Option Addr) (sl sc : Nat) (rA : Option Addr) (rl rc : Nat) (mA : Option Addr) (ml mc : Nat) (w : World) (hp : ProgIn w p nA nl nc sA sl sc rA rl rc mA ml mc) :
    Calls Try.prog 4 #[.agg #[.int .i64 p.n, .slice nA nl nc, .slice sA sl sc, .slice rA rl rc, .slice mA ml mc]] w fun e w' => e = .returned (.bool true) ∧ Below w.heap.size w w' := by
  have cSm := fun W (hb : Below w.heap.size w W) => fine_any p nA nl nc sA sl sc rA rl rc mA ml mc W (hp.ext hb)
  have cA := awake21_any
  have hx0 := Blk.new w 27 #[.int .i64 p.n, .slice nA nl nc, .slice sA sl sc, .slice rA rl rc, .slice mA ml mc]
  cases hq : fineB p with
  | false =>
    rw [hq] at cSm
    have HP := Lib.hid hp; clear hp
    have CSM := Lib.hid cSm; clear cSm
    have CA := Lib.hid cA; clear cA
    have HX0 := Lib.hid hx0; clear hx0
    have HQ := Lib.hid hq; clear hq
    go_enter Try.func4, Try.ntmps4
    go_wp2_with fail
    go_fit (CSM.out _ (bel_alloc _ _)); rintro e w1 ⟨rfl, hb1⟩
    have HBW := Lib.hid (bel_trans (bel_alloc _ _) hb1)
    have HX := Lib.hid (HX0.out.bel hb1)
    clear hb1
    go_wp2_with fail
    go_fit (CA.out _); rintro e wz ⟨rfl, hbz⟩
    have HB3 := Lib.hid (bel_trans HBW.out hbz)
    clear hbz
    go_wp2_with fail
    go_ret
    exact ⟨rfl, HB3.out⟩
  | true =>
    rw [hq] at cSm
    obtain ⟨hfew, hv⟩ := fine_is hq
    have hpi := validE_is hv
    have hn0 : 0 ≤ p.n := (namedB_n hpi.named).1
    have hn12 := fine_n hfew
    have cCo := fun W (hb : Below w.heap.size w W) => comps_any p nA nl nc sA sl sc rA rl rc mA ml mc W (hp.ext hb) hv
    have cNu := fun W (hb : Below w.heap.size w W) => number_any p nA nl nc sA sl sc rA rl rc mA ml mc W (hp.ext hb) hv
    have cRe := fun W (hb : Below w.heap.size w W) => reach_any p nA nl nc sA sl sc rA rl rc mA ml mc W (hp.ext hb) hv hn12
    have L := Lib.hid (parts_law hpi)
    obtain ⟨T, hTt⟩ : ∃ T, T = rchL p := ⟨_, rfl⟩
    have hTl := rchL_len p
    have hTw := rchL_low hpi hn12
    rw [← hTt] at hTl hTw cRe
    obtain ⟨N, hN⟩ : ∃ N : Nat, N = p.n.toNat := ⟨_, rfl⟩
    have hNn : p.n = (N : Int) := by omega
    have hN12 : N ≤ 12 := by omega
    rw [← hN] at cRe hTl
    rw [hNn] at cSm cCo cNu cRe hx0
    rw [hNn]
    have hmk : ∀ W : World, (Instr.makeSlice 23 (.int .i64 ((N : Int) + 1)) (.int .i64 ((N : Int) + 1))).run Try.prog W = .ok (.slice (some ⟨W.heap.size, 0, none⟩) (N + 1) (N + 1)) (W.alloc (.cells (intC (metL N [])) 3)) := fun W => by
      have h := run_make_row' (P := Try.prog) 23 3 (.int .i64 0) 8 Try.underlying23 info_int rfl .i64 .i64 (N + 1) (by omega) (by omega) W
      have e : madeCells #[Value.int .i64 0] (N + 1) = intC (metL N []) := by
        rw [metL_nil]
        unfold madeCells intC
        apply Array.ext
        · simp
        · intro i h1 h2
          simp [Nat.mod_one]
      rw [e] at h
      rwa [show (((N + 1 : Nat)) : Int) = (N : Int) + 1 by omega] at h
    have hcl : (compsL p).length ≤ N + 1 := by have := comp_len' (comps_part hpi).ok; rw [of_len, ← hN] at this; exact this
    have HTT := Lib.hid hTt; clear hTt
    have HP := Lib.hid hp; clear hp
    have CSM := Lib.hid cSm; clear cSm
    have CA := Lib.hid cA; clear cA
    have HX0 := Lib.hid hx0; clear hx0
    have HQ := Lib.hid hq; clear hq
    have HV := Lib.hid hv; clear hv
    have HPI := Lib.hid hpi; clear hpi
    have HFEW := Lib.hid hfew; clear hfew
    have CCO := Lib.hid cCo; clear cCo
    have CNU := Lib.hid cNu; clear cNu
    have CRE := Lib.hid cRe; clear cRe
    have HTL := Lib.hid hTl; clear hTl
    have HTW := Lib.hid hTw; clear hTw
    have HN := Lib.hid hN; clear hN
    have HCL := Lib.hid hcl; clear hcl
    go_enter Try.func4, Try.ntmps4
    go_wp2_with fail
    go_fit (CSM.out _ (bel_alloc _ _)); rintro e w1 ⟨rfl, hb1⟩
    have HBW := Lib.hid (bel_trans (bel_alloc _ _) hb1)
    have HX := Lib.hid (HX0.out.bel hb1)
    clear hb1
    obtain ⟨p0, p1, p2, p3, p4, p5⟩ := pcells HX.out
    go_wp2_with fail
    go_fit (CCO.out _ HBW.out); rintro e w2 ⟨cA, cl, cc, rfl, hC, -, hb⟩
    have HC := Lib.hid hC
    clear hC
    have HBW' := Lib.hid (bel_trans HBW.out hb)
    have HX' := Lib.hid (HX.out.bel hb)
    clear HBW HX
    have HBW := HBW'
    have HX := HX'
    clear HBW' HX'
    clear p0 p1 p2 p3 p4 p5
    obtain ⟨p0, p1, p2, p3, p4, p5⟩ := pcells HX.out
    go_wp2_with fail
    go_fit (CNU.out _ HBW.out); rintro e w3 ⟨uA, ul, uc, rfl, hU, -, hb⟩
    have HC3 := Lib.hid (HC.out.ext hb)
    have HU := Lib.hid hU
    clear hU
    have HBW' := Lib.hid (bel_trans HBW.out hb)
    have HX' := Lib.hid (HX.out.bel hb)
    clear HBW HX
    have HBW := HBW'
    have HX := HX'
    clear HBW' HX'
    clear p0 p1 p2 p3 p4 p5
    obtain ⟨p0, p1, p2, p3, p4, p5⟩ := pcells HX.out
    go_wp2_with fail
    go_fit (CRE.out _ HBW.out); rintro e w4 ⟨ub, rfl, hT, hub, hb⟩
    have HC4 := Lib.hid (HC3.out.ext hb)
    have HU4 := Lib.hid (HU.out.ext hb)
    have HT := Lib.hid hT
    clear hT
    have HBW' := Lib.hid (bel_trans HBW.out hb)
    have HX' := Lib.hid (HX.out.bel hb)
    clear HBW HX
    have HBW := HBW'
    have HX := HX'
    clear HBW' HX'
    clear p0 p1 p2 p3 p4 p5
    obtain ⟨p0, p1, p2, p3, p4, p5⟩ := pcells HX.out
    have hul : N = ul := by have h1 := HU.out.len; have h2 := L.out.len; omega
    subst hul
    have hcc := HC4.out.cap
    have hcm := HC4.out.max
    have huc := HU4.out.cap
    have hum := HU4.out.max
    clear HC HC3 HU hub
    go_wp2_with fail
    have hm5 := Blk.new w4 3 (intC (metL N []))
    have hbl5 := bel_alloc w4 (.cells (intC (metL N [])) 3)
    have hxl := HX.out.lt
    have hx0' : w4.cell? ⟨w.heap.size, 0, none⟩ = some (.int .i64 (N : Int)) := HX.out.cell 0
    clear p0 p1 p2 p3 p4 p5
    generalize w4.alloc (.cells (intC (metL N [])) 3) = w5 at *
    clear hmk
    have HM5 := Lib.hid hm5; clear hm5
    have HBL5 := Lib.hid hbl5; clear hbl5
    have hcl2 : cl ≤ 13 := by have h1 := HC4.out.len; have h2 := HCL.out; omega
    have hcm2 : cl ≤ cc := HC4.out.cap
    go_loopw [62] (fun t wr => ∃ i : Nat, i ≤ cl ∧ t = .int .i64 (i : Int) ∧ Blk wr w4.heap.size 3 (intC (metL N ((compsL p).take i).flatten)) ∧ Below w4.heap.size w4 wr) (fun t _ => cl - (intOf t).toNat)
    case atStart => exact ⟨0, Nat.zero_le _, rfl, HM5.out, HBL5.out⟩
    case round =>
      obtain ⟨i, hi, rfl, hM, hB⟩ := hrel
      obtain ⟨wo, rfl⟩ : ∃ wo : World, wo = wr := ⟨_, rfl⟩
      by_cases hlt : i < cl
      · obtain ⟨c, hci, hcd⟩ := HC4.out.drop hlt
        obtain ⟨xb, xo, xA, xl, xc, rfl, lx0, cx0, hro⟩ := HC4.out.set hci
        have cx := (hB.cell (World.block_lt_of_cell? _ _ cx0)).trans cx0
        clear cx0
        have i0 : (0 : Int) ≤ (i : Int) := by omega
        have i1 : (i : Int) < (cl : Int) := by omega
        have hxc := hro.cap
        have hxm := hro.max
        have hxl2 := hro.len
        have hne := L.out.ne i c hci
        have hxp : 0 < xl := by rw [hxl2]; exact List.length_pos_iff.2 hne
        have hxz : ((xl : Int) == 0) = false := by simp; omega
        have hrg := L.out.rng i c hci
        have hst := L.out.srt i c hci
        have hfl : ((compsL p).take (i + 1)).flatten = ((compsL p).take i).flatten ++ c := by rw [take_snoc' hci]; simp
        have hcs : (compsL p).flatten = ((compsL p).take i).flatten ++ (c ++ ((compsL p).drop (i + 1)).flatten) := by
          conv => lhs; rw [← List.take_append_drop i (compsL p), hcd]
          simp
        generalize ((compsL p).take i).flatten = F at *
        clear hcd
        have hx13 : xl ≤ N + 1 := by
          have hin := ((comps_part HPI.out).ok.inc c (List.mem_of_getElem? hci)).2
          have := nodup_le (N + 1) c (hin.imp (fun {a b} q e => by omega)) (fun k hk => by
            obtain ⟨j, hj⟩ := List.getElem?_of_mem hk
            have := hrg j k hj
            omega)
          omega
        have HCI := Lib.hid hci; clear hci
        have HRO := Lib.hid hro; clear hro
        have HXL2 := Lib.hid hxl2; clear hxl2
        have HCS := Lib.hid hcs; clear hcs
        have HNE := Lib.hid hne; clear hne
        have HRG := Lib.hid hrg; clear hrg
        have HST := Lib.hid hst; clear hst
        have HFL := Lib.hid hfl; clear hfl
        have HM := Lib.hid hM; clear hM
        have HB := Lib.hid hB; clear hB
        go_wp2_with fail
        clear cx
        go_loopw [72] (fun t wr2 => ∃ j : Nat, j ≤ xl ∧ t = .int .i64 (j : Int) ∧ Blk wr2 w4.heap.size 3 (intC (metL N (F ++ c.take j))) ∧ Below w4.heap.size w4 wr2) (fun t _ => xl - (intOf t).toNat)
        case atStart => exact ⟨0, Nat.zero_le _, rfl, by simpa using HM.out, HB.out⟩
        case round =>
          obtain ⟨j, hj, rfl, hM2, hB2⟩ := hrel
          obtain ⟨wi, rfl⟩ : ∃ wi : World, wi = wr := ⟨_, rfl⟩
          by_cases hlt2 : j < xl
          · have hr4 := HRO.out.ext hB2
            obtain ⟨y, hy, hyd⟩ := hr4.drop hlt2
            obtain ⟨yb, yo, ey, _, hym, -⟩ := hr4.int hy
            cases ey
            obtain ⟨y1, y2, y3⟩ := HRG.out j y hy
            obtain ⟨am, rfl⟩ : ∃ am : Nat, y = ((am + 1 : Nat) : Int) := ⟨(y - 1).toNat, by omega⟩
            have ha0 : (((am + 1 : Nat) : Int) - 1).toNat = am := by omega
            have hnz : (numsL p)[am]? = some (i : Int) := by
              have h1 : am < (numsL p).length := by have := L.out.len; omega
              rw [List.getElem?_eq_getElem h1]
              unfold nthZ at y3
              rw [ha0, List.getD_eq_getElem?_getD, List.getElem?_eq_getElem h1] at y3
              exact congrArg some y3
            obtain ⟨nb, no, eu, _, hue, -⟩ := (HU4.out.ext hB2).int hnz
            cases eu
            have hcnt : (F ++ c.take j).count ((am + 1 : Nat) : Int) = 0 := by
              have h1 := L.out.once _ y1 y2
              rw [HCS.out, List.count_append, List.count_append] at h1
              have h2 : c.count ((am + 1 : Nat) : Int) = (c.take j).count ((am + 1 : Nat) : Int) + (c.drop j).count ((am + 1 : Nat) : Int) := by rw [← List.count_append, List.take_append_drop]
              rw [hyd, List.count_cons_self] at h2
              rw [List.count_append]
              omega
            have hmm : wi.cell? ⟨w4.heap.size, am + 1, none⟩ = some (.int .i64 0) := by
              rw [hM2.cell, intC_get, metL_at (show am + 1 ≤ N by omega), hcnt]; rfl
            have hmz := hM2.frozen (am + 1)
            have hms := metL_snoc (n := N) (a := am + 1) (F ++ c.take j)
            rw [hcnt, List.append_assoc, ← take_snoc' hy] at hms
            have hx0i : wi.cell? ⟨w.heap.size, 0, none⟩ = some (.int .i64 (N : Int)) := (hB2.cell (by exact hxl)).trans hx0'
            have j0 : (0 : Int) ≤ (j : Int) := by omega
            have j1 : (j : Int) < (xl : Int) := by omega
            have a0 : (0 : Int) ≤ (am : Int) := by omega
            have a1 : (am : Int) < (N : Int) := by omega
            have a2 : (am : Int) + 1 < (N : Int) + 1 := by omega
            have a3 : ¬ (am : Int) + 1 < 1 := by omega
            have a4 : ¬ (N : Int) < (am : Int) + 1 := by omega
            have a5 : (am : Int) + 1 - 1 = (am : Int) := by omega
            have hb9 := Kept.below hB2 ((Kept.refl [w4.heap.size] wi).set (p := ⟨w4.heap.size, am + 1, none⟩) (.inl (by simp)) (.int .i64 1)) hB2.size (by simp)
            have hm9 := hM2.set_ (am + 1) (.int .i64 1)
            rw [show (Value.int .i64 1) = .int .i64 (((0 : Nat) : Int) + 1) from rfl, intC_set, hms] at hm9
            clear hyd y3 hnz hcnt hms
            have HM2 := Lib.hid hM2; clear hM2
            have HB2 := Lib.hid hB2; clear hB2
            have HR4 := Lib.hid hr4; clear hr4
            have HY := Lib.hid hy; clear hy
            have HB9 := Lib.hid hb9; clear hb9
            have HM9 := Lib.hid hm9; clear hm9
            rcases Nat.eq_zero_or_pos j with rfl | hjp
            · have hym0 : wi.cell? ⟨yb, yo, none⟩ = some (.int .i64 ((am + 1 : Nat) : Int)) := hym
              go_wp2_with fail
              go_roundw
              case rel => exact ⟨1, by omega, by go_num, HM9.out, HB9.out⟩
              case measure => simp [intOf]; omega
            · obtain ⟨k, hk⟩ : ∃ k, j = k + 1 := ⟨j - 1, by omega⟩
              obtain ⟨z, hz, -⟩ := HR4.out.drop (show k < xl by omega)
              obtain ⟨_, _, ez, _, hzm, hz64⟩ := HR4.out.int hz
              cases ez
              have hzy := HST.out k _ _ hz (by rw [← hk]; exact HY.out)
              have a7 : ¬ ((am : Int) + 1 ≤ z) := by omega
              have a8 : (j : Int) - 1 = (k : Int) := by omega
              have a9 : (0 : Int) < (j : Int) := by omega
              have k0 : (0 : Int) ≤ (k : Int) := by omega
              have k1 : (k : Int) < (xl : Int) := by omega
              clear hzy hz64 hjp
              have HZ := Lib.hid hz; clear hz
              have HK := Lib.hid hk; clear hk
              go_wp2_with fail
              go_roundw
              case rel => exact ⟨j + 1, by omega, by go_num, HM9.out, HB9.out⟩
              case measure => simp [intOf]; omega
          · have hje : j = xl := by omega
            subst hje
            rw [List.take_of_length_le (by have := HXL2.out; omega), ← HFL.out] at hM2
            have HM2 := Lib.hid hM2; clear hM2
            have HB2 := Lib.hid hB2; clear hB2
            go_wp2_with fail
            go_roundw
            case rel => exact ⟨i + 1, by omega, by go_num, HM2.out, HB2.out⟩
            case measure => simp [intOf]; omega
      · have hie : i = cl := by omega
        subst hie
        rw [List.take_of_length_le (by have := HC4.out.len; omega)] at hM
        have hT9 := HT.out.bel hB
        have hU9 := HU4.out.ext hB
        have hC9 := HC4.out.ext hB
        have hx9 : wo.cell? ⟨w.heap.size, 0, none⟩ = some (.int .i64 (N : Int)) := (hB.cell (by exact hxl)).trans hx0'
        have hb9 := bel_trans HBW.out hB
        clear hx0' hxl
        have HM := Lib.hid hM; clear hM
        have HB := Lib.hid hB; clear hB
        have HT9 := Lib.hid hT9; clear hT9
        have HU9 := Lib.hid hU9; clear hU9
        have HC9 := Lib.hid hC9; clear hC9
        have HB9 := Lib.hid hb9; clear hb9
        go_wp2_with fail
        go_loopw [13] (fun t wr => ∃ a : Nat, 1 ≤ a ∧ a ≤ N + 1 ∧ t = .int .i64 (a : Int) ∧ Below wo.heap.size wo wr) (fun t _ => N + 2 - (intOf t).toNat)
        case atStart => exact ⟨1, Nat.le_refl _, by omega, rfl, Below.refl _ _⟩
        case round =>
          obtain ⟨a, ha1, ha2, rfl, hBa⟩ := hrel
          obtain ⟨wa, rfl⟩ : ∃ wa : World, wa = wr := ⟨_, rfl⟩
          have hx9a : wa.cell? ⟨w.heap.size, 0, none⟩ = some (.int .i64 (N : Int)) := (hBa.cell (World.block_lt_of_cell? _ _ hx9)).trans hx9
          by_cases hlt : a ≤ N
          · obtain ⟨am, ham⟩ : ∃ am, a = am + 1 := ⟨a - 1, by omega⟩
            have g1 : (a : Int) - 1 = (am : Int) := by omega
            have g2 : (0 : Int) ≤ (a : Int) := by omega
            have g3 : (a : Int) < (N : Int) + 1 := by omega
            have g4 : (0 : Int) ≤ (am : Int) := by omega
            have g5 : (am : Int) < (N : Int) := by omega
            have g6 : (a : Int) ≤ (N : Int) := by omega
            obtain ⟨na, hna⟩ : ∃ na, (numsL p)[am]? = some na := ⟨_, List.getElem?_eq_getElem (by have := L.out.len; omega)⟩
            have hza : nthZ (numsL p) ((a : Int) - 1) = na := by unfold nthZ; rw [g1, Int.toNat_natCast, List.getD_eq_getElem?_getD, hna]; rfl
            clear ham
            have HNA := Lib.hid hna; clear hna
            have HZA := Lib.hid hza; clear hza
            have HBA := Lib.hid hBa; clear hBa
            go_wp2_with fail
            go_loopw [14] (fun t wr => ∃ b : Nat, 1 ≤ b ∧ b ≤ N + 1 ∧ t = .int .i64 (b : Int) ∧ Below wo.heap.size wo wr) (fun t _ => N + 2 - (intOf t).toNat)
            case atStart => exact ⟨1, Nat.le_refl _, by omega, rfl, HBA.out⟩
            case round =>
              obtain ⟨b, hb1, hb2, rfl, hBb⟩ := hrel
              obtain ⟨wb, rfl⟩ : ∃ wb : World, wb = wr := ⟨_, rfl⟩
              clear hx9a
              have hx9b : wb.cell? ⟨w.heap.size, 0, none⟩ = some (.int .i64 (N : Int)) := (hBb.cell (World.block_lt_of_cell? _ _ hx9)).trans hx9
              have hT9b := HT9.out.bel hBb
              have hta : wb.cell? ⟨ub, a, none⟩ = some (.int .u64 (nthN T a : Int)) := by rw [hT9b.cell]; exact u64C_at (by have := HTL.out; omega)
              have hma : wb.cell? ⟨w4.heap.size, a, none⟩ = some (.int .i64 1) := by
                rw [(HM.out.bel hBb).cell, intC_get, metL_at hlt, L.out.once a (by omega) (by omega)]; rfl
              by_cases hlt2 : b ≤ N
              · obtain ⟨bm, hbm⟩ : ∃ bm, b = bm + 1 := ⟨b - 1, by omega⟩
                have q1 : (b : Int) - 1 = (bm : Int) := by omega
                have q2 : (0 : Int) ≤ (b : Int) := by omega
                have q3 : (b : Int) < (N : Int) + 1 := by omega
                have q4 : (0 : Int) ≤ (bm : Int) := by omega
                have q5 : (bm : Int) < (N : Int) := by omega
                have q6 : (b : Int) ≤ (N : Int) := by omega
                obtain ⟨nz, hnb⟩ : ∃ nz, (numsL p)[bm]? = some nz := ⟨_, List.getElem?_eq_getElem (by have := L.out.len; omega)⟩
                have hzb : nthZ (numsL p) ((b : Int) - 1) = nz := by unfold nthZ; rw [q1, Int.toNat_natCast, List.getD_eq_getElem?_getD, hnb]; rfl
                have hU9b := HU9.out.ext hBb
                obtain ⟨nb, no, eu, _, hua, -⟩ := hU9b.int HNA.out
                cases eu
                obtain ⟨_, _, eu, _, huz, -⟩ := hU9b.int hnb
                cases eu
                have htb : wb.cell? ⟨ub, b, none⟩ = some (.int .u64 (nthN T b : Int)) := by rw [hT9b.cell]; exact u64C_at (by have := HTL.out; omega)
                have htog := L.out.tog a b (by omega) (by omega) (by omega) (by omega)
                have hord := L.out.ord a b (by omega) (by omega) (by omega) (by omega)
                rw [HZA.out, hzb, ← HTT.out] at htog hord
                have z1 := and_one (b := b) (show nthN T a < 8192 from HTW.out a)
                have z2 := and_one (b := a) (show nthN T b < 8192 from HTW.out b)
                have e1 : bitN T (a : Int) (b : Int) = (nthN T a).testBit b := rfl
                have e2 : bitN T (b : Int) (a : Int) = (nthN T b).testBit a := rfl
                rw [e1, e2] at htog
                rw [e1] at hord
                obtain ⟨c1, hc1⟩ : ∃ c1, c1 = (nthN T a).testBit b := ⟨_, rfl⟩
                obtain ⟨c2, hc2⟩ : ∃ c2, c2 = (nthN T b).testBit a := ⟨_, rfl⟩
                rw [← hc1] at z1 htog hord
                rw [← hc2] at z2 htog
                clear hc1 hc2 e1 e2 hbm
                have HNB := Lib.hid hnb; clear hnb
                have HZB := Lib.hid hzb; clear hzb
                have HT9B := Lib.hid hT9b; clear hT9b
                have HU9B := Lib.hid hU9b; clear hU9b
                have HBB := Lib.hid hBb; clear hBb
                by_cases hab : b = a
                · subst hab
                  have hn : na = nz := htog.1 (.inl rfl)
                  subst hn
                  have hirr : ¬ na < na := Int.lt_irrefl _
                  clear htog hord z2
                  cases c1 with
                  | false =>
                    go_wp2_with fail
                    go_quiet (fail)
                    go_wp2_with fail
                    go_roundw
                    case rel => exact ⟨b + 1, by omega, by omega, by go_num, below_drewN HBB.out _⟩
                    case measure => simp [intOf]; omega
                  | true =>
                    go_wp2_with fail
                    go_quiet (fail)
                    go_wp2_with fail
                    go_roundw
                    case rel => exact ⟨b + 1, by omega, by omega, by go_num, below_drewN HBB.out _⟩
                    case measure => simp [intOf]; omega
                · have hab := Ne.symm hab
                  have hab' : ((a : Int) == (b : Int)) = false := by simp; omega
                  have hab2 : ¬ (a : Int) = (b : Int) := by omega
                  have hab3 : ¬ a = b := hab
                  cases c1 with
                  | false =>
                    have hne : ¬ na = nz := fun e => by
                      rcases htog.2 e with q | q
                      · exact hab2 q
                      · cases q.1
                    have hne' : (na == nz) = false := by simpa using hne
                    clear htog hord z2
                    go_wp2_with fail
                    go_quiet (fail)
                    go_wp2_with fail
                    go_roundw
                    case rel => exact ⟨b + 1, by omega, by omega, by go_num, below_drewN HBB.out _⟩
                    case measure => simp [intOf]; omega
                  | true =>
                    have hle : ¬ na < nz := by have := hord rfl; omega
                    cases c2 with
                    | false =>
                      have hne : ¬ na = nz := fun e => by
                        rcases htog.2 e with q | q
                        · exact hab2 q
                        · cases q.2
                      have hne' : (na == nz) = false := by simpa using hne
                      clear htog hord
                      go_wp2_with fail
                      go_quiet (fail)
                      go_wp2_with fail
                      go_roundw
                      case rel => exact ⟨b + 1, by omega, by omega, by go_num, below_drewN HBB.out _⟩
                      case measure => simp [intOf]; omega
                    | true =>
                      have hn : na = nz := htog.1 (.inr ⟨rfl, rfl⟩)
                      subst hn
                      clear htog hord
                      go_wp2_with fail
                      go_quiet (fail)
                      go_wp2_with fail
                      go_roundw
                      case rel => exact ⟨b + 1, by omega, by omega, by go_num, below_drewN HBB.out _⟩
                      case measure => simp [intOf]; omega
              · have hbe : b = N + 1 := by omega
                subst hbe
                clear hlt2
                have HBB := Lib.hid hBb; clear hBb
                have HT9B := Lib.hid hT9b; clear hT9b
                go_wp2_with fail
                go_roundw
                case rel => exact ⟨a + 1, by omega, by omega, by go_num, HBB.out⟩
                case measure => simp [intOf]; omega
          · have hae : a = N + 1 := by omega
            subst hae
            clear hlt
            have hcl9 := HC9.out.len
            have HBA := Lib.hid hBa; clear hBa
            have HCL9 := Lib.hid hcl9; clear hcl9
            go_wp2_with fail
            go_loopw [16] (fun t wr => ∃ i : Nat, 1 ≤ i ∧ i ≤ 14 ∧ t = .int .i64 (i : Int) ∧ Below wo.heap.size wo wr) (fun t _ => 15 - (intOf t).toNat)
            case atStart => exact ⟨1, Nat.le_refl _, by omega, rfl, HBA.out⟩
            case round =>
              obtain ⟨k, hk1, hk2, rfl, hBb⟩ := hrel
              obtain ⟨wb, rfl⟩ : ∃ wb : World, wb = wr := ⟨_, rfl⟩
              by_cases hlt : k < i
              · obtain ⟨km, hkm⟩ : ∃ km, k = km + 1 := ⟨k - 1, by omega⟩
                have q1 : (k : Int) - 1 = (km : Int) := by omega
                have q2 : (0 : Int) ≤ (k : Int) := by omega
                have q3 : (k : Int) < (i : Int) := by omega
                have q4 : (0 : Int) ≤ (km : Int) := by omega
                have q5 : (km : Int) < (i : Int) := by omega
                have hC9b := HC9.out.ext hBb
                obtain ⟨c, hc, -⟩ := hC9b.drop (show km < i by omega)
                obtain ⟨d, hd, -⟩ := hC9b.drop (show k < i by omega)
                obtain ⟨_, _, xA, xl, xc, e1, _, cx, hro⟩ := hC9b.set hc
                cases e1
                obtain ⟨_, _, yA, yl, yc, e1, _, cy, hso⟩ := hC9b.set hd
                cases e1
                have hcn := L.out.ne km c hc
                have hdn := L.out.ne k d hd
                have hcons := L.out.cons km c d hc (by rw [← hkm]; exact hd)
                obtain ⟨x, ct, rfl⟩ : ∃ x ct, c = x :: ct := by
                  cases c with
                  | nil => exact absurd rfl hcn
                  | cons a b => exact ⟨_, _, rfl⟩
                obtain ⟨y, dt, rfl⟩ : ∃ y dt, d = y :: dt := by
                  cases d with
                  | nil => exact absurd rfl hdn
                  | cons a b => exact ⟨_, _, rfl⟩
                obtain ⟨x1, x2, -⟩ := L.out.rng km _ hc 0 x rfl
                obtain ⟨y1, y2, -⟩ := L.out.rng k _ hd 0 y rfl
                obtain ⟨xn, rfl⟩ : ∃ n : Nat, x = (n : Int) := ⟨x.toNat, by omega⟩
                obtain ⟨yn, rfl⟩ : ∃ n : Nat, y = (n : Int) := ⟨y.toNat, by omega⟩
                obtain ⟨rb, ro, e1, _, hx0, -⟩ := hro.int (k := 0) rfl
                cases e1
                obtain ⟨sb, so, e1, _, hy0, -⟩ := hso.int (k := 0) rfl
                cases e1
                have hx0' : wb.cell? ⟨rb, ro, none⟩ = some (.int .i64 (xn : Int)) := hx0
                have hy0' : wb.cell? ⟨sb, so, none⟩ = some (.int .i64 (yn : Int)) := hy0
                have hxl : (0 : Int) < (xl : Int) := by have := hro.len; simp at this; omega
                have hyl : (0 : Int) < (yl : Int) := by have := hso.len; simp at this; omega
                have hT9b := HT9.out.bel hBb
                have hty : wb.cell? ⟨ub, yn, none⟩ = some (.int .u64 (nthN T yn : Int)) := by rw [hT9b.cell]; exact u64C_at (by have := HTL.out; omega)
                have r1 : (0 : Int) ≤ (yn : Int) := by omega
                have r2 : (yn : Int) < (N : Int) + 1 := by omega
                have r3 : (0 : Int) ≤ (xn : Int) := by omega
                have z1 := and_zero (b := xn) (show nthN T yn < 8192 from HTW.out yn)
                have hbt : yn < xn → (nthN T yn).testBit xn = true := fun h => by
                  have := hcons (show (yn : Int) < (xn : Int) by omega)
                  rw [← HTT.out] at this; exact this
                clear hx0 hy0 hcons hcn hdn hkm
                have hc13 : i ≤ 13 := hcl2
                by_cases hyx : yn < xn
                · rw [hbt hyx] at z1
                  simp only [Bool.not_true] at z1
                  have hd1 : decide (yn < xn) = true := decide_eq_true hyx
                  have hd2 : decide ((yn : Int) < (xn : Int)) = true := decide_eq_true (by omega)
                  clear hbt
                  have HC := Lib.hid hc; clear hc
                  have HD := Lib.hid hd; clear hd
                  have HC9B := Lib.hid hC9b; clear hC9b
                  have HRO := Lib.hid hro; clear hro
                  have HSO := Lib.hid hso; clear hso
                  have HBB := Lib.hid hBb; clear hBb
                  have HT9B := Lib.hid hT9b; clear hT9b
                  go_wp2_with fail
                  go_quiet (fail)
                  go_wp2_with fail
                  go_roundw
                  case rel => exact ⟨k + 1, by omega, by omega, by go_num, below_drewN HBB.out _⟩
                  case measure => simp [intOf]; omega
                · have hd1 : decide (yn < xn) = false := decide_eq_false hyx
                  have hd2 : decide ((yn : Int) < (xn : Int)) = false := decide_eq_false (by omega)
                  clear hbt z1
                  have HC := Lib.hid hc; clear hc
                  have HD := Lib.hid hd; clear hd
                  have HC9B := Lib.hid hC9b; clear hC9b
                  have HRO := Lib.hid hro; clear hro
                  have HSO := Lib.hid hso; clear hso
                  have HBB := Lib.hid hBb; clear hBb
                  have HT9B := Lib.hid hT9b; clear hT9b
                  go_wp2_with fail
                  go_quiet (fail)
                  go_wp2_with fail
                  go_roundw
                  case rel => exact ⟨k + 1, by omega, by omega, by go_num, below_drewN HBB.out _⟩
                  case measure => simp [intOf]; omega
              · have hkl : ¬ (k : Int) < (i : Int) := by omega
                have hb10 := bel_trans HB9.out hBb
                have HBB := Lib.hid hBb; clear hBb
                have HB10 := Lib.hid hb10; clear hb10
                go_wp2_with fail
                go_fit (CA.out _); rintro e wz ⟨rfl, hbz⟩
                have HB11 := Lib.hid (bel_trans HB10.out hbz)
                clear hbz
                go_wp2_with fail
                go_ret
                exact ⟨rfl, HB11.out⟩
end Go.Proofs.Ytbfbkpoakmnlpaa

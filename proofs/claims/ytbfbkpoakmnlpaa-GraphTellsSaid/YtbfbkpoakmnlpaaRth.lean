/- Contract of the reference: Components. -/
import Derived.Test.YtbfbkpoakmnlpaaRte
import Derived.Test.YtbfbkpoakmnlpaaGrd
import Derived.Test.YtbfbkpoakmnlpaaGS
import Derived.Test.YtbfbkpoakmnlpaaRr0
namespace Go.Proofs.Ytbfbkpoakmnlpaa
open Go.RowKit

def dnL (n : Nat) (D : List Int) : List Int := (List.range (n + 1)).map fun (a : Nat) => if (a : Int) ∈ D then 1 else 0
theorem dnL_len (n : Nat) (D : List Int) : (dnL n D).length = n + 1 := by unfold dnL; simp
theorem dnL_at {n a : Nat} (h : a ≤ n) (D : List Int) : (dnL n D)[a]? = some (if (a : Int) ∈ D then 1 else 0) := by
  unfold dnL
  rw [List.getElem?_map, List.getElem?_range (by omega)]; rfl
theorem dnL_set {n a : Nat} (D : List Int) : (dnL n D).set a 1 = dnL n (D ++ [(a : Int)]) := by
  unfold dnL
  apply List.ext_getElem
  · simp
  · intro i h1 h2
    rw [List.getElem_set]
    simp only [List.getElem_map, List.getElem_range, List.mem_append, List.mem_singleton]
    split
    · rename_i e; subst e; simp
    · rename_i e
      have : ¬ ((i : Int) = (a : Int)) := by omega
      simp [this]
theorem tgL_next (p : GProg) (x b : Nat) : tgL p x (b + 1) = if tgB p x b then tgL p x b ++ [(b : Int) + 1] else tgL p x b := by
  unfold tgL
  rw [List.range_succ, List.filter_append, List.map_append]
  cases h : tgB p x b <;> simp [h]
theorem tgL_len (p : GProg) (x b : Nat) : (tgL p x b).length ≤ b := by
  unfold tgL
  rw [List.length_map]
  have := List.length_filter_le (tgB p x) (List.range b)
  rwa [List.length_range] at this
set_option maxRecDepth 100000 in
set_option maxHeartbeats 8000000 in
theorem refComps_any (p : GProg) (nA : Option Addr) (nl nc : Nat) (sA : Option Addr) (sl sc : Nat) (rA : Option Addr) (rl rc : Nat) (mA : Option Addr) (ml mc : Nat) (w : World) (hp : ProgIn w p nA nl nc sA sl sc rA rl rc mA ml mc) (hv : validE p = 0) (h12 : p.n ≤ 12) :
    Calls Try.prog 18 #[.agg #[.int .i64 p.n, .slice nA nl nc, .slice sA sl sc, .slice rA rl rc, .slice mA ml mc]] w fun e w' => ∃ A l c, e = .returned (.slice A l c) ∧ SlIs (slR intR) w' A l c (compsL p) ∧ Below w.heap.size w w' := by
  have hi := validE_is hv
  have h0 : 0 ≤ p.n := (namedB_n hi.named).1
  have hdl := fun (i : Nat) => done_len hi (i := i)
  have hdle := fun (i : Nat) => done_le hi i
  have cP := fun W (hb : Below w.heap.size w W) => refPaths_any p nA nl nc sA sl sc rA rl rc mA ml mc W (hp.ext hb) h0 h12
  have hcl : (compsL p).length ≤ p.n.toNat + 1 := by have := comp_len' (comps_part hi).ok; rwa [of_len] at this
  obtain ⟨N, hN⟩ : ∃ N : Nat, N = p.n.toNat := ⟨_, rfl⟩
  have hNn : p.n = (N : Int) := by omega
  have hN12 : N ≤ 12 := by omega
  have cT := fun (ub x y : Nat) W (hx : x < N) (hy : y < N) (hu : Blk W ub 3 (intC (mat N (ptB p)))) => refTog_any p nA nl nc sA sl sc rA rl rc mA ml mc ub x y N W hNn hN12 hx hy hu
  rw [← hN] at cP hcl hdl hdle
  have hpx : ∀ (i : Nat) (c : List Int), (compsL p)[i]? = some c → ∃ x, PickL p i c x ∧ x < N := fun i c h => by
    obtain ⟨x, hx⟩ := pick_ok hi h
    exact ⟨x, hx, by have := hx.lt; omega⟩
  obtain ⟨M, hM⟩ : ∃ M : Nat, M = N * N := ⟨_, rfl⟩
  have hM144 : M ≤ 144 := by rw [hM]; exact Nat.mul_le_mul hN12 hN12
  rw [← hM] at cP cT
  have hx1 := Blk.new w 27 #[.int .i64 p.n, .slice nA nl nc, .slice sA sl sc, .slice rA rl rc, .slice mA ml mc]
  rw [hNn] at cP hx1 cT
  rw [hNn]
  have hmk : ∀ W : World, (Instr.makeSlice 23 (.int .i64 ((N : Int) + 1)) (.int .i64 ((N : Int) + 1))).run Try.prog W = .ok (.slice (some ⟨W.heap.size, 0, none⟩) (N + 1) (N + 1)) (W.alloc (.cells (intC (dnL N [])) 3)) := fun W => by
    have h := run_make_row' (P := Try.prog) 23 3 (.int .i64 0) 8 Try.underlying23 info_int rfl .i64 .i64 (N + 1) (by omega) (by omega) W
    have e : madeCells #[Value.int .i64 0] (N + 1) = intC (dnL N []) := by
      unfold madeCells intC dnL
      apply Array.ext
      · simp
      · intro i h1 h2
        simp [Nat.mod_one]
    rw [e] at h
    rwa [show (((N + 1 : Nat)) : Int) = (N : Int) + 1 by omega] at h
  have HP := Lib.hid hp; clear hp
  have HN := Lib.hid hN; clear hN
  have CP := Lib.hid cP; clear cP
  have HX1 := Lib.hid hx1; clear hx1
  have CT := Lib.hid cT; clear cT
  have HI := Lib.hid hi; clear hi
  have HM := Lib.hid hM; clear hM
  have HPX := Lib.hid hpx; clear hpx
  have HDL := Lib.hid hdl; clear hdl
  have HCL := Lib.hid hcl; clear hcl
  have HDLE := Lib.hid hdle; clear hdle
  go_enter Try.func18, Try.ntmps18
  go_wp2_with fail
  go_fit (CP.out _ (bel_alloc _ _)); rintro e w1 ⟨ub, rfl, hU, -, hb⟩
  have hx2 := HX1.out.bel hb
  have hbw := bel_trans (bel_alloc _ _) hb
  clear hb
  have m0 : w1.cell? ⟨w.heap.size, 0, none⟩ = some (.int .i64 (N : Int)) := hx2.cell 0
  have HU := Lib.hid hU; clear hU
  have HX2 := Lib.hid hx2; clear hx2
  have HBW := Lib.hid hbw; clear hbw
  go_wp2_with fail
  clear m0
  have hd0 := Blk.new w1 3 (intC (dnL N []))
  have hb0 := bel_alloc w1 (.cells (intC (dnL N [])) 3)
  have hs2 : w1.heap.size < (w1.alloc (.cells (intC (dnL N [])) 3)).heap.size := by simp
  clear hmk
  generalize w1.alloc (.cells (intC (dnL N [])) 3) = w2 at *
  obtain ⟨ud, hud⟩ : ∃ ud, ud = w1.heap.size := ⟨_, rfl⟩
  rw [← hud] at hd0 hs2
  rw [← hud]
  have hubd : ub < ud := by have := HU.out.lt; omega
  have hwd : w.heap.size < ud := by have := HX2.out.lt; omega
  have HD0 := Lib.hid hd0; clear hd0
  have HB0 := Lib.hid hb0; clear hb0
  have HUD := Lib.hid hud; clear hud
  go_loopw [4, 6] (fun v t wr => ∃ i : Nat, i ≤ (compsL p).length ∧ t = .int .i64 ((doneL p i).length : Int) ∧ Blk wr ud 3 (intC (dnL N (doneL p i))) ∧ RowO (slR intR) 23 [ud] w2.heap.size wr v ((compsL p).take i) ∧ Below w1.heap.size w1 wr ∧ (doneL p i).length ≤ N) (fun _ t _ => N - (intOf t).toNat)
  case atStart => exact ⟨0, Nat.zero_le _, rfl, HD0.out, RowO.nil (Nat.le_refl _), HB0.out, Nat.zero_le _⟩
  case round =>
    obtain ⟨i, hic, rfl, hD, hro, hB, hlN⟩ := hrel
    obtain ⟨wa, rfl⟩ : ∃ wa : World, wa = wr := ⟨_, rfl⟩
    obtain ⟨v, rfl⟩ : ∃ v : Value, v = u4 := ⟨_, rfl⟩
    have m0 : wa.cell? ⟨w.heap.size, 0, none⟩ = some (.int .i64 (N : Int)) := (HX2.out.bel hB).cell 0
    obtain ⟨L, hL⟩ : ∃ L, L = (doneL p i).length := ⟨_, rfl⟩
    rw [← hL] at hlN
    rw [← hL]
    have L0 : (0 : Int) ≤ (L : Int) := by omega
    by_cases hlt : i < (compsL p).length
    · obtain ⟨c, hc⟩ : ∃ c, (compsL p)[i]? = some c := ⟨_, List.getElem?_eq_getElem hlt⟩
      obtain ⟨x, hpk, hxN⟩ := HPX.out i c hc
      have hLN : L < N := by
        have := (HDL.out i hic)
        omega
      have L1 : (L : Int) < (N : Int) := by omega
      have hdn := done_next hc
      obtain ⟨D, hDe⟩ : ∃ D, D = doneL p i := ⟨_, rfl⟩
      have hfi := hpk.first
      have hre := hpk.ready
      have hco := hpk.comp
      rw [← hDe] at hD hdn hfi hre hL
      rw [← HN.out] at hco
      have hrb : ∀ a, readyB p D a = (decide (((a : Int) + 1) ∉ D) && (List.range N).all fun y => !(decide (((y : Int) + 1) ∉ D) && ptB p a y && !tgB p a y)) := fun a => by rw [HN.out]; rfl
      clear hpk
      have hne := ((comps_part HI.out).ok.inc c (List.mem_of_getElem? hc)).1
      have HNE := Lib.hid hne; clear hne
      have HC := Lib.hid hc; clear hc
      have HD := Lib.hid hD; clear hD
      have HRO := Lib.hid hro; clear hro
      have HB := Lib.hid hB; clear hB
      have HL := Lib.hid hL; clear hL
      have HDN := Lib.hid hdn; clear hdn
      have HDE := Lib.hid hDe; clear hDe
      have HFI := Lib.hid hfi; clear hfi
      have HRE := Lib.hid hre; clear hre
      have HCO := Lib.hid hco; clear hco
      have HRB := Lib.hid hrb; clear hrb
      go_wp2_with fail
      clear m0
      go_loopw [4, 6, 7] (fun v2 l2 t wr => ∃ a : Nat, a ≤ x ∧ v2 = v ∧ l2 = .int .i64 (L : Int) ∧ t = .int .i64 ((a : Int) + 1) ∧ Below wa.heap.size wa wr) (fun _ _ t _ => N + 1 - (intOf t).toNat)
      case atStart => exact ⟨0, Nat.zero_le _, rfl, rfl, rfl, Below.refl _ _⟩
      case round =>
        obtain ⟨a, hax, hv2, rfl, rfl, hB2⟩ := hrel
        subst hv2
        obtain ⟨v, rfl⟩ : ∃ v : Value, v = u4 := ⟨_, rfl⟩
        obtain ⟨wb, rfl⟩ : ∃ wb : World, wb = wr := ⟨_, rfl⟩
        have a0 : (0 : Int) ≤ (a : Int) + 1 := by omega
        have a1 : (a : Int) + 1 ≤ (N : Int) := by omega
        have a2 : (a : Int) + 1 < (N : Int) + 1 := by omega
        have haN : a < N := by omega
        have m0 : wb.cell? ⟨w.heap.size, 0, none⟩ = some (.int .i64 (N : Int)) := (HX2.out.bel (bel_trans HB.out hB2)).cell 0
        have hda : wb.cell? ⟨ud, a + 1, none⟩ = some (.int .i64 (if (((a + 1 : Nat) : Int)) ∈ D then 1 else 0)) := by
          rw [(HD.out.bel hB2).cell, intC_get, dnL_at (show a + 1 ≤ N by omega)]; rfl
        rw [show (((a + 1 : Nat)) : Int) = (a : Int) + 1 by omega] at hda
        obtain ⟨na, hna⟩ : ∃ na, na = decide (((a : Int) + 1) ∉ D) := ⟨_, rfl⟩
        obtain ⟨va, hda2, hzz⟩ : ∃ va : Int, wb.cell? ⟨ud, a + 1, none⟩ = some (.int .i64 va) ∧ (va == 0) = na := by
          refine ⟨_, hda, ?_⟩
          rw [hna]; by_cases q : ((a : Int) + 1) ∈ D <;> simp [q]
        have hrba := HRB.out a
        rw [← hna] at hrba
        clear hda
        have HB2 := Lib.hid hB2; clear hB2
        have HRBA := Lib.hid hrba; clear hrba
        have HNA := Lib.hid hna; clear hna
        go_wp2_with fail
        clear m0 hda2 hzz
        go_loopw [8, 9] (fun r t wr => ∃ b : Nat, b ≤ N ∧ r = .bool (na && (List.range b).all fun y => !(decide (((y : Int) + 1) ∉ D) && ptB p a y && !tgB p a y)) ∧ t = .int .i64 ((b : Int) + 1) ∧ Below wa.heap.size wa wr) (fun _ t _ => N + 1 - (intOf t).toNat)
        case atStart => exact ⟨0, Nat.zero_le _, by simp, rfl, HB2.out⟩
        case round =>
          obtain ⟨b, hb, rfl, rfl, hB3⟩ := hrel
          obtain ⟨wc2, rfl⟩ : ∃ wc2 : World, wc2 = wr := ⟨_, rfl⟩
          have b0 : (0 : Int) ≤ (b : Int) + 1 := by omega
          have hxc := HX2.out.bel (bel_trans HB.out hB3)
          have m0 : wc2.cell? ⟨w.heap.size, 0, none⟩ = some (.int .i64 (N : Int)) := hxc.cell 0
          by_cases hltb : b < N
          · have b1 : (b : Int) + 1 ≤ (N : Int) := by omega
            have b2 : (b : Int) + 1 < (N : Int) + 1 := by omega
            have hdb : wc2.cell? ⟨ud, b + 1, none⟩ = some (.int .i64 (if (((b + 1 : Nat) : Int)) ∈ D then 1 else 0)) := by
              rw [(HD.out.bel hB3).cell, intC_get, dnL_at (show b + 1 ≤ N by omega)]; rfl
            rw [show (((b + 1 : Nat)) : Int) = (b : Int) + 1 by omega] at hdb
            obtain ⟨nb, hnb⟩ : ∃ nb, nb = decide (((b : Int) + 1) ∉ D) := ⟨_, rfl⟩
            obtain ⟨vb, hdb2, hzb⟩ : ∃ vb : Int, wc2.cell? ⟨ud, b + 1, none⟩ = some (.int .i64 vb) ∧ (vb == 0) = nb := by
              refine ⟨_, hdb, ?_⟩
              rw [hnb]; by_cases q : ((b : Int) + 1) ∈ D <;> simp [q]
            have hUc := HU.out.bel (bel_trans HB.out hB3)
            have q1 : wc2.cell? ⟨ub, a * N + b, none⟩ = some (.int .i64 (if ptB p a b then 1 else 0)) := by
              rw [hUc.cell, intC_get, mat_at haN hltb]; rfl
            have l1 := ix_lt haN hltb
            obtain ⟨an, han⟩ : ∃ an, an = a * N := ⟨_, rfl⟩
            have han2 : (a : Int) * (N : Int) = (an : Int) := by rw [han]; simp
            rw [← HM.out, ← han] at l1
            rw [← han] at q1
            obtain ⟨i1, e1⟩ : ∃ i1, i1 = an + b := ⟨_, rfl⟩
            have e1' : (an : Int) + ((b : Int) + 1) = (i1 : Int) + 1 := by omega
            rw [← e1] at q1 l1
            have z1 : (a : Int) + 1 - 1 = (a : Int) := by omega
            have z3 : (i1 : Int) + 1 - 1 = (i1 : Int) := by omega
            have n0 : (0 : Int) ≤ (an : Int) := by omega
            have n1 : (an : Int) < 144 := by omega
            have x0 : (0 : Int) ≤ (i1 : Int) := by omega
            have x1 : (i1 : Int) < (M : Int) := by omega
            have aa0 : (0 : Int) ≤ (a : Int) := by omega
            obtain ⟨pt, hpt⟩ : ∃ pt, pt = ptB p a b := ⟨_, rfl⟩
            rw [← hpt] at q1
            obtain ⟨vp, hq1, hzp⟩ : ∃ vp : Int, wc2.cell? ⟨ub, i1, none⟩ = some (.int .i64 vp) ∧ (vp == 1) = pt := by
              refine ⟨_, q1, ?_⟩
              cases pt <;> rfl
            have hnx : (na && (List.range (b + 1)).all fun y => !(decide (((y : Int) + 1) ∉ D) && ptB p a y && !tgB p a y)) = ((na && (List.range b).all fun y => !(decide (((y : Int) + 1) ∉ D) && ptB p a y && !tgB p a y)) && !(nb && pt && !tgB p a b)) := by
              rw [List.range_succ, List.all_append, ← Bool.and_assoc, List.all_cons, List.all_nil, Bool.and_true, hnb, hpt]
            generalize (na && (List.range b).all fun y => !(decide (((y : Int) + 1) ∉ D) && ptB p a y && !tgB p a y)) = ac at *
            clear hdb q1 hpt hnb han e1 l1
            cases nb with
            | false =>
              have HXC := Lib.hid hxc; clear hxc
              have HUC := Lib.hid hUc; clear hUc
              have HB3 := Lib.hid hB3; clear hB3
              have HNX := Lib.hid hnx; clear hnx
              go_wp2_with fail
              go_roundw
              case rel => exact ⟨b + 1, by omega, by rw [HNX.out]; simp, by go_num, HB3.out⟩
              case measure => simp [intOf]; omega
            | true =>
              cases pt with
              | false =>
                have HXC := Lib.hid hxc; clear hxc
                have HUC := Lib.hid hUc; clear hUc
                have HB3 := Lib.hid hB3; clear hB3
                have HNX := Lib.hid hnx; clear hnx
                go_wp2_with fail
                go_roundw
                case rel => exact ⟨b + 1, by omega, by rw [HNX.out]; simp, by go_num, HB3.out⟩
                case measure => simp [intOf]; omega
              | true =>
                obtain ⟨p0, p1, p2, p3, p4, p5⟩ := pcells hxc
                have cTg := CT.out ub a b wc2 haN hltb hUc
                obtain ⟨tg, htg⟩ : ∃ tg, tg = tgB p a b := ⟨_, rfl⟩
                rw [← htg] at cTg hnx
                clear htg
                have HXC := Lib.hid hxc; clear hxc
                have HUC := Lib.hid hUc; clear hUc
                have HB3 := Lib.hid hB3; clear hB3
                have HNX := Lib.hid hnx; clear hnx
                have CTG := Lib.hid cTg; clear cTg
                go_wp2_with fail
                go_fit CTG.out; rintro e wd ⟨rfl, hb⟩
                have hB4 := bel_trans HB3.out hb
                clear hb HB3
                have HB3 := Lib.hid hB4
                clear hB4 m0 hdb2 hq1
                clear p0 p1 p2 p3 p4 p5
                cases tg with
                | false =>
                  go_wp2_with fail
                  go_roundw
                  case rel => exact ⟨b + 1, by omega, by rw [HNX.out]; simp, by go_num, HB3.out⟩
                  case measure => simp [intOf]; omega
                | true =>
                  go_wp2_with fail
                  go_roundw
                  case rel => exact ⟨b + 1, by omega, by rw [HNX.out]; simp, by go_num, HB3.out⟩
                  case measure => simp [intOf]; omega
          · have hbe : N = b := by omega
            subst hbe
            have b1 : ¬ (N : Int) + 1 ≤ (N : Int) := by omega
            rw [← HRBA.out]
            cases hrd : readyB p D a with
            | false =>
              have hne : a ≠ x := fun e => by subst e; rw [HRE.out] at hrd; cases hrd
              have HXC := Lib.hid hxc; clear hxc
              have HB3 := Lib.hid hB3; clear hB3
              have HRD := Lib.hid hrd; clear hrd
              go_wp2_with fail
              go_roundw
              case rel => exact ⟨a + 1, by omega, rfl, rfl, by go_num, HB3.out⟩
              case measure => simp [intOf]; omega
            | true =>
              have hax2 : x = a := by
                rcases Nat.lt_or_ge a x with q | q
                · have := HFI.out a q; rw [this] at hrd; cases hrd
                · omega
              subst hax2
              have hs3 := hB3.size
              have HXC := Lib.hid hxc; clear hxc
              have HB3 := Lib.hid hB3; clear hB3
              have HRD := Lib.hid hrd; clear hrd
              go_wp2_with fail
              clear m0
              have hw3 := bel_trans HBW.out (bel_trans HB.out HB3.out)
              have hD3 := HD.out.bel HB3.out
              have hU3 := HU.out.bel (bel_trans HB.out HB3.out)
              have hx3 := HX2.out.bel (bel_trans HB.out HB3.out)
              have hud3 : ud < wc2.heap.size := hD3.lt
              have hwz : w.heap.size ≤ wc2.heap.size := hw3.size
              have HW3 := Lib.hid hw3; clear hw3
              have HD3 := Lib.hid hD3; clear hD3
              have HU3 := Lib.hid hU3; clear hU3
              have HX3 := Lib.hid hx3; clear hx3
              go_loopw [10, 11] (fun cv t wr => ∃ b : Nat, b ≤ N ∧ t = .int .i64 ((b : Int) + 1) ∧ OwnB intR 3 w wc2.heap.size wr cv (tgL p x b) ∧ Blk wr ud 3 (intC (dnL N (D ++ tgL p x b))) ∧ Kept [ud] wc2 wr) (fun _ t _ => N + 1 - (intOf t).toNat)
              case atStart => exact ⟨0, Nat.zero_le _, rfl, OwnB.nil HW3.out hwz (Nat.le_refl _), by simpa [tgL] using HD3.out, Kept.refl _ _⟩
              case round =>
                obtain ⟨b, hb, rfl, hob, hD4, hk4⟩ := hrel
                obtain ⟨wd, rfl⟩ : ∃ wd : World, wd = wr := ⟨_, rfl⟩
                have b0 : (0 : Int) ≤ (b : Int) + 1 := by omega
                have hx4 := hk4.blk HX3.out (by simp; omega)
                have m0 : wd.cell? ⟨w.heap.size, 0, none⟩ = some (.int .i64 (N : Int)) := hx4.cell 0
                by_cases hltb : b < N
                · have b1 : (b : Int) + 1 ≤ (N : Int) := by omega
                  have b2 : (b : Int) + 1 < (N : Int) + 1 := by omega
                  have hU4 := hk4.blk HU3.out (by simp; omega)
                  have cTg := CT.out ub x b wd hxN hltb hU4
                  have hnx := tgL_next p x b
                  have hln := tgL_len p x b
                  generalize tgB p x b = tg at *
                  obtain ⟨p0, p1, p2, p3, p4, p5⟩ := pcells hx4
                  have HOB := Lib.hid hob; clear hob
                  have HD4 := Lib.hid hD4; clear hD4
                  have HK4 := Lib.hid hk4; clear hk4
                  have HX4 := Lib.hid hx4; clear hx4
                  have HU4 := Lib.hid hU4; clear hU4
                  have CTG := Lib.hid cTg; clear cTg
                  have HNX := Lib.hid hnx; clear hnx
                  go_wp2_with fail
                  go_fit CTG.out; rintro e we ⟨rfl, hb⟩
                  clear p0 p1 p2 p3 p4 p5
                  have hob5 := HOB.out.bel hb
                  have hD5 := HD4.out.bel hb
                  have hk5 := HK4.out.bel hb
                  clear hb m0
                  cases tg with
                  | false =>
                    rw [show tgL p x b = tgL p x (b + 1) from by rw [HNX.out]; rfl] at hob5 hD5
                    have HOB5 := Lib.hid hob5; clear hob5
                    have HD5 := Lib.hid hD5; clear hD5
                    have HK5 := Lib.hid hk5; clear hk5
                    go_wp2_with fail
                    go_roundw
                    case rel => exact ⟨b + 1, by omega, by go_num, HOB5.out, HD5.out, HK5.out⟩
                    case measure => simp [intOf]; omega
                  | true =>
                    have hnx2 : tgL p x b ++ [(b : Int) + 1] = tgL p x (b + 1) := by rw [HNX.out]; rfl
                    obtain ⟨v', w9, hrun, ho9, hg9, hat9⟩ := hob5.app1 ety_int [.int .i64 ((b : Int) + 1)] ((b : Int) + 1) ⟨rfl, by unfold I64; omega⟩ (by omega) 23
                    rw [hnx2] at ho9
                    have n1 : some ud ≠ u10.ownBlock := fun e => by have := (hob5.lt e.symm).1; omega
                    have kb9 := hD5.grown hg9 n1
                    obtain ⟨v0, hv0⟩ : ∃ v0, w9.cell? ⟨ud, b + 1, none⟩ = some v0 := by
                      rw [kb9.cell, intC_get, dnL_at (show b + 1 ≤ N by omega)]; exact ⟨_, rfl⟩
                    have hz0 := kb9.frozen (b + 1)
                    have hn9 := kb9.set_ (b + 1) (.int .i64 1)
                    rw [intC_set, dnL_set, List.append_assoc, show (((b + 1 : Nat)) : Int) = (b : Int) + 1 by omega, hnx2] at hn9
                    have ho10 := ho9.set (p := ⟨ud, b + 1, none⟩) (show w.heap.size ≤ ud by omega) hud3 (.int .i64 1)
                    have hk9 : Kept [ud] wc2 (w9.setCell ⟨ud, b + 1, none⟩ (.int .i64 1)) := (hk5.grown hg9 (fun q hq => .inr (hob5.lt hq).1)).set (.inl (by simp)) _
                    obtain ⟨oA2, oc2, ev, -⟩ := ho9.sl (by have := tgL_len p x (b + 1); omega)
                    subst ev
                    generalize (tgL p x (b + 1)).length = n9 at *
                    clear hnx2
                    have HOB5 := Lib.hid hob5; clear hob5
                    have HD5 := Lib.hid hD5; clear hD5
                    have HK5 := Lib.hid hk5; clear hk5
                    have HRUN := Lib.hid hrun; clear hrun
                    have HO9 := Lib.hid ho9; clear ho9
                    have HG9 := Lib.hid hg9; clear hg9
                    have HAT9 := Lib.hid hat9; clear hat9
                    have KB9 := Lib.hid kb9; clear kb9
                    have HN9 := Lib.hid hn9; clear hn9
                    have HO10 := Lib.hid ho10; clear ho10
                    have HK9 := Lib.hid hk9; clear hk9
                    go_wp2_with (at_builtin; refine wpList_append_run rfl _ _ _ rfl _ _ rfl rfl _ _ HRUN.out ?_)
                    go_roundw
                    case rel => exact ⟨b + 1, by omega, by go_num, HO10.out, HN9.out, HK9.out⟩
                    case measure => simp [intOf]; omega
                · have hbe : N = b := by omega
                  subst hbe
                  have b1 : ¬ (N : Int) + 1 ≤ (N : Int) := by omega
                  rw [← HCO.out] at hob hD4
                  rw [← HDN.out] at hD4
                  have hkw : Kept [ud] wa wd := (Kept.of_below HB3.out [ud]).trans hk4
                  have hvl := fun q (hq : v.ownBlock = some q) => HRO.out.lt hq
                  have hro2 := HRO.out.step hkw (fun q hq => by
                    have e : q = ud := by simpa using hq
                    subst e
                    exact ⟨.inl (by simp), fun e => by have := (hvl _ e).1; omega⟩)
                  have hcln : c.length ≤ N := by rw [HCO.out]; exact tgL_len p x N
                  obtain ⟨cA, cc, ec, hcs⟩ := hob.sl (by omega)
                  obtain ⟨cn, hcn⟩ : ∃ cn, cn = c.length := ⟨_, rfl⟩
                  rw [← hcn] at ec hcs hcln
                  subst ec
                  have hoff : Off ([ud] ++ ownL v) cA cn := fun h0 ad e hm => by
                    have h1 : (Value.slice cA cn cc).ownBlock = some ad.block := by rw [e]; rfl
                    have h2 := (hob.lt h1).1
                    rcases List.mem_append.1 hm with h3 | h3
                    · simp at h3; omega
                    · have := (hvl _ (ownL_mem.1 h3)).2; have := HB3.out.size; omega
                  have hst : Stab (slR intR) ([ud] ++ ownL v) wd [.slice cA cn cc] c := StabS.slice (StabS.ints hcs hoff)
                  have hpl : ((compsL p).take i).length ≤ 13 := by have := List.length_take_le i (compsL p); have := HCL.out; omega
                  obtain ⟨v', w9, hrun, ho9, hg9, hat9⟩ := hro2.app1 ety_set _ c hst (by omega) 34
                  rw [← take_snoc' HC.out] at ho9
                  have n1 : some ud ≠ v.ownBlock := fun e => by have := (hvl _ e.symm).1; omega
                  have kb9 := hD4.grown hg9 n1
                  have hb9 : Below w1.heap.size w1 w9 := bel_grown (Kept.below HB.out hkw HB.out.size (by simp; have := HUD.out; omega)) hg9 (by have := (Kept.below HB.out hkw HB.out.size (by simp; have := HUD.out; omega)); exact this.size) (fun q hq => by have := (hvl q hq).1; have := HUD.out; omega)
                  have hL2 : (doneL p (i + 1)).length = L + cn := by rw [HDN.out, List.length_append, ← HL.out, hcn]
                  have hL3 := HDLE.out (i + 1)
                  have L2 : (L : Int) + (cn : Int) ≤ (N : Int) := by omega
                  have L3 : (0 : Int) ≤ (cn : Int) := by omega
                  have cn1 : 1 ≤ cn := by
                    rw [hcn]; exact List.length_pos_iff.2 HNE.out
                  obtain ⟨oA2, oc2, ev, -⟩ := ho9.sl (by have := List.length_take_le (i + 1) (compsL p); have := HCL.out; omega)
                  subst ev
                  generalize ((compsL p).take (i + 1)).length = n9 at *
                  clear hvl hpl hcn
                  have HOB := Lib.hid hob; clear hob
                  have HD4 := Lib.hid hD4; clear hD4
                  have HK4 := Lib.hid hk4; clear hk4
                  have HKW := Lib.hid hkw; clear hkw
                  have HRO2 := Lib.hid hro2; clear hro2
                  have HCS := Lib.hid hcs; clear hcs
                  have HOFF := Lib.hid hoff; clear hoff
                  have HST := Lib.hid hst; clear hst
                  have HRUN := Lib.hid hrun; clear hrun
                  have HO9 := Lib.hid ho9; clear ho9
                  have HG9 := Lib.hid hg9; clear hg9
                  have HAT9 := Lib.hid hat9; clear hat9
                  have KB9 := Lib.hid kb9; clear kb9
                  have HB9 := Lib.hid hb9; clear hb9
                  have HL2 := Lib.hid hL2; clear hL2
                  have HL3 := Lib.hid hL3; clear hL3
                  go_wp2_with (at_builtin; refine wpList_append_run rfl _ _ _ rfl _ _ rfl rfl _ _ HRUN.out ?_)
                  go_roundw
                  case rel => exact ⟨i + 1, by omega, by rw [HL2.out]; go_num, KB9.out, HO9.out, HB9.out, HL3.out⟩
                  case measure => simp [intOf]; omega
    · have hie : i = (compsL p).length := by omega
      have hLN : L = N := by rw [hL]; exact (HDL.out i hic).2 hie
      subst hLN
      rw [hie, List.take_length] at hro
      obtain ⟨A, c, ev, hsl⟩ := hro.sl (by have := HCL.out; omega)
      subst ev
      have hbz := bel_trans HBW.out hB
      have L1 : ¬ (L : Int) < (L : Int) := by omega
      clear hie hic
      generalize (compsL p).length = nl9 at *
      have HD := Lib.hid hD; clear hD
      have HRO := Lib.hid hro; clear hro
      have HB := Lib.hid hB; clear hB
      have HSL := Lib.hid hsl; clear hsl
      have HBZ := Lib.hid hbz; clear hbz
      have HL := Lib.hid hL; clear hL
      go_wp2_with fail
      go_ret
      exact ⟨_, _, _, rfl, HSL.out, HBZ.out⟩
end Go.Proofs.Ytbfbkpoakmnlpaa

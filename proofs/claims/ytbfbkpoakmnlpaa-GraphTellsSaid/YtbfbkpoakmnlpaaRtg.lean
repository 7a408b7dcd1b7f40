/- Contracts of the reference: Edges, Tight, HeadCycleFree. -/
import Derived.Test.YtbfbkpoakmnlpaaRte
import Derived.Test.YtbfbkpoakmnlpaaRfp
import Derived.Test.YtbfbkpoakmnlpaaG1
import Derived.Test.YtbfbkpoakmnlpaaG4
namespace Go.Proofs.Ytbfbkpoakmnlpaa
open Go.RowKit

set_option maxRecDepth 100000 in
set_option maxHeartbeats 4000000 in
theorem refEdges_any (p : GProg) (nA : Option Addr) (nl nc : Nat) (sA : Option Addr) (sl sc : Nat) (rA : Option Addr) (rl rc : Nat) (mA : Option Addr) (ml mc : Nat) (w : World) (hp : ProgIn w p nA nl nc sA sl sc rA rl rc mA ml mc) (hv : validE p = 0) (h12 : p.n ≤ 12) :
    Calls Try.prog 20 #[.agg #[.int .i64 p.n, .slice nA nl nc, .slice sA sl sc, .slice rA rl rc, .slice mA ml mc]] w fun e w' => ∃ A l c, e = .returned (.slice A l c) ∧ SlIs pairR w' A l c (edgeL p) ∧ Below w.heap.size w w' := by
  have hi := validE_is hv
  have h0 : 0 ≤ p.n := (namedB_n hi.named).1
  have hEq := refEL_eq hi
  obtain ⟨N, hN⟩ : ∃ N : Nat, N = p.n.toNat := ⟨_, rfl⟩
  have hNn : p.n = (N : Int) := by omega
  have hN12 : N ≤ 12 := by omega
  have hEq2 : edgeL p = (List.range N).flatMap (refRow p N) := by rw [← hEq, hN]; rfl
  have cE := fun (a b : Int) W (hb : Below w.heap.size w W) => refEdge_any p nA nl nc sA sl sc rA rl rc mA ml mc a b W (hp.ext hb)
  have hx1 := Blk.new w 27 #[.int .i64 p.n, .slice nA nl nc, .slice sA sl sc, .slice rA rl rc, .slice mA ml mc]
  have hb1 := bel_alloc w (.cells #[.int .i64 p.n, .slice nA nl nc, .slice sA sl sc, .slice rA rl rc, .slice mA ml mc] 27)
  rw [hNn] at cE hx1 hb1
  rw [hNn]
  have HP := Lib.hid hp; clear hp
  have HI := Lib.hid hi; clear hi
  have HN := Lib.hid hN; clear hN
  have CE := Lib.hid cE; clear cE
  have HX1 := Lib.hid hx1; clear hx1
  have HB1 := Lib.hid hb1; clear hb1
  have HEQ := Lib.hid hEq; clear hEq
  have HEQ2 := Lib.hid hEq2; clear hEq2
  go_enter Try.func20, Try.ntmps20
  go_wp2_with fail
  generalize w.alloc (.cells #[.int .i64 (N : Int), .slice nA nl nc, .slice sA sl sc, .slice rA rl rc, .slice mA ml mc] 27) = w1 at *
  go_loopw [3, 4] (fun v t wr => ∃ (a l : Nat), a ≤ N ∧ t = .int .i64 ((a : Int) + 1) ∧ OwnP wr w1.heap.size v l ((List.range a).flatMap (refRow p N)) ∧ Below w1.heap.size w1 wr) (fun _ t _ => N + 1 - (intOf t).toNat)
  case atStart => exact ⟨0, 0, Nat.zero_le _, rfl, by simpa using OwnP.nil _ _, Below.refl _ _⟩
  case round =>
    obtain ⟨a, l, ha, rfl, ho, hB⟩ := hrel
    obtain ⟨wa, rfl⟩ : ∃ wa : World, wa = wr := ⟨_, rfl⟩
    have m0 : wa.cell? ⟨w.heap.size, 0, none⟩ = some (.int .i64 (N : Int)) := (HX1.out.bel hB).cell 0
    have a0 : (0 : Int) ≤ (a : Int) + 1 := by omega
    by_cases hlt : a < N
    · have a1 : (a : Int) + 1 ≤ (N : Int) := by omega
      have HO := Lib.hid ho; clear ho
      have HB := Lib.hid hB; clear hB
      go_wp2_with fail
      clear m0
      go_loopw [3, 5] (fun v t wr => ∃ (b l : Nat), b ≤ N ∧ t = .int .i64 ((b : Int) + 1) ∧ OwnP wr w1.heap.size v l ((List.range a).flatMap (refRow p N) ++ refRow p b a) ∧ Below w1.heap.size w1 wr) (fun _ t _ => N + 1 - (intOf t).toNat)
      case atStart => exact ⟨0, l, Nat.zero_le _, rfl, by simpa [refRow] using HO.out, HB.out⟩
      case round =>
        obtain ⟨b, l2, hb, rfl, ho2, hB2⟩ := hrel
        obtain ⟨wb, rfl⟩ : ∃ wb : World, wb = wr := ⟨_, rfl⟩
        have b0 : (0 : Int) ≤ (b : Int) + 1 := by omega
        by_cases hlt2 : b < N
        · have b1 : (b : Int) + 1 ≤ (N : Int) := by omega
          have hxb := HX1.out.bel hB2
          have cEd := CE.out ((a : Int) + 1) ((b : Int) + 1) wb (bel_trans HB1.out hB2)
          rw [show edB p ((a : Int) + 1) ((b : Int) + 1) = edN p a b from rfl] at cEd
          have hnx := refRow_next p a b
          have hl2 : l2 < 4398046511104 := by
            have h1 := ho2.1
            have h2 := refEL_len p N a
            have h3 := refRow_len p b a
            rw [List.length_append] at h1
            have : a * N ≤ 12 * 12 := Nat.mul_le_mul (by omega) hN12
            omega
          generalize edN p a b = ed at *
          obtain ⟨p0, p1, p2, p3, p4, p5⟩ := pcells hxb
          have HXB := Lib.hid hxb; clear hxb
          have HO2 := Lib.hid ho2; clear ho2
          have HB2 := Lib.hid hB2; clear hB2
          have CED := Lib.hid cEd; clear cEd
          have HNX := Lib.hid hnx; clear hnx
          go_wp2_with fail
          go_fit CED.out; rintro e wc ⟨rfl, hb⟩
          have hB3 := bel_trans HB2.out hb
          have ho3 := HO2.out.keptS (Kept.of_below hb []) (by simp)
          clear hb
          clear p0 p1 p2 p3 p4 p5
          cases ed with
          | false =>
            rw [show refRow p b a = refRow p (b + 1) a from by rw [HNX.out]; rfl] at ho3
            have HB3 := Lib.hid hB3; clear hB3
            have HO3 := Lib.hid ho3; clear ho3
            go_wp2_with fail
            go_roundw
            case rel => exact ⟨b + 1, _, by omega, by go_num, HO3.out, HB3.out⟩
            case measure => simp [intOf]; omega
          | true =>
            obtain ⟨v', w3, hrun, hown, hg3, hat⟩ := appP ho3 ((a : Int) + 1) ((b : Int) + 1) hl2 hB3.size 30
            have hb3 := bel_grown hB3 hg3 hB3.size (fun q hq => (ho3.2.lt q hq).1)
            rw [List.append_assoc, show refRow p b a ++ [((a : Int) + 1, (b : Int) + 1)] = refRow p (b + 1) a from by rw [HNX.out]; rfl] at hown
            have HB3 := Lib.hid hB3; clear hB3
            have HO3 := Lib.hid ho3; clear ho3
            have HRUN := Lib.hid hrun; clear hrun
            have HOWN := Lib.hid hown; clear hown
            have HG3 := Lib.hid hg3; clear hg3
            have HAT := Lib.hid hat; clear hat
            have HB3 := Lib.hid hb3; clear hb3
            go_wp2_with (at_builtin; refine wpList_append_run rfl _ _ _ rfl _ _ rfl rfl _ _ HRUN.out ?_)
            go_roundw
            case rel => exact ⟨b + 1, _, by omega, by go_num, HOWN.out, HB3.out⟩
            case measure => simp [intOf]; omega
        · have hbe : N = b := by omega
          subst hbe
          have e : (List.range a).flatMap (refRow p N) ++ refRow p N a = (List.range (a + 1)).flatMap (refRow p N) := by rw [List.range_succ, List.flatMap_append]; simp
          rw [e] at ho2
          have b1 : ¬ (N : Int) + 1 ≤ (N : Int) := by omega
          have m0 : wb.cell? ⟨w.heap.size, 0, none⟩ = some (.int .i64 (N : Int)) := (HX1.out.bel hB2).cell 0
          have HO2 := Lib.hid ho2; clear ho2
          have HB2 := Lib.hid hB2; clear hB2
          go_wp2_with fail
          go_roundw
          case rel => exact ⟨a + 1, _, by omega, by go_num, HO2.out, HB2.out⟩
          case measure => simp [intOf]; omega
    · have hae : N = a := by omega
      subst hae
      have a1 : ¬ (N : Int) + 1 ≤ (N : Int) := by omega
      rw [← HEQ2.out] at ho
      have her : ∀ e ∈ edgeL p, I64 e.1 ∧ I64 e.2 := fun e he => by
        have := edge_rng (of_ok HI.out h0 (by omega)) (of_len p) e he
        unfold I64; omega
      have hll : l ≤ 17592186044416 := by
        have h1 := ho.1
        rw [HEQ2.out] at h1
        have h2 := refEL_len p N N
        have : N * N ≤ 12 * 12 := Nat.mul_le_mul hN12 hN12
        omega
      obtain ⟨A, c, rfl, hsl⟩ := ho.sl hll her
      have hbz := bel_trans HB1.out hB
      clear her hll
      have HO := Lib.hid ho; clear ho
      have HB := Lib.hid hB; clear hB
      have HSL := Lib.hid hsl; clear hsl
      have HBZ := Lib.hid hbz; clear hbz
      go_wp2_with fail
      go_ret
      exact ⟨_, _, _, rfl, HSL.out, HBZ.out⟩
set_option maxRecDepth 100000 in
set_option maxHeartbeats 4000000 in
theorem refTight_any (p : GProg) (nA : Option Addr) (nl nc : Nat) (sA : Option Addr) (sl sc : Nat) (rA : Option Addr) (rl rc : Nat) (mA : Option Addr) (ml mc : Nat) (w : World) (hp : ProgIn w p nA nl nc sA sl sc rA rl rc mA ml mc) (hv : validE p = 0) (h12 : p.n ≤ 12) :
    Calls Try.prog 23 #[.agg #[.int .i64 p.n, .slice nA nl nc, .slice sA sl sc, .slice rA rl rc, .slice mA ml mc]] w fun e w' => e = .returned (.bool (tightB p)) ∧ Below w.heap.size w w' := by
  have hi := validE_is hv
  have h0 : 0 ≤ p.n := (namedB_n hi.named).1
  have hti := tight_ref hi
  have cP := fun W (hb : Below w.heap.size w W) => refPaths_any p nA nl nc sA sl sc rA rl rc mA ml mc W (hp.ext hb) h0 h12
  obtain ⟨N, hN⟩ : ∃ N : Nat, N = p.n.toNat := ⟨_, rfl⟩
  have hNn : p.n = (N : Int) := by omega
  have hN12 : N ≤ 12 := by omega
  rw [← hN] at hti cP
  obtain ⟨M, hM⟩ : ∃ M : Nat, M = N * N := ⟨_, rfl⟩
  have hM144 : M ≤ 144 := by rw [hM]; exact Nat.mul_le_mul hN12 hN12
  rw [← hM] at cP
  have hx1 := Blk.new w 27 #[.int .i64 p.n, .slice nA nl nc, .slice sA sl sc, .slice rA rl rc, .slice mA ml mc]
  rw [hNn] at cP hx1
  rw [hNn]
  have HP := Lib.hid hp; clear hp
  have HN := Lib.hid hN; clear hN
  have CP := Lib.hid cP; clear cP
  have HX1 := Lib.hid hx1; clear hx1
  have HTI := Lib.hid hti; clear hti
  have HM := Lib.hid hM; clear hM
  go_enter Try.func23, Try.ntmps23
  go_wp2_with fail
  go_fit (CP.out _ (bel_alloc _ _)); rintro e w1 ⟨ub, rfl, hU, -, hb⟩
  have hx2 := HX1.out.bel hb
  have hbw := bel_trans (bel_alloc _ _) hb
  have m0 : w1.cell? ⟨w.heap.size, 0, none⟩ = some (.int .i64 (N : Int)) := hx2.cell 0
  clear hb
  have HU := Lib.hid hU; clear hU
  have HX2 := Lib.hid hx2; clear hx2
  have HBW := Lib.hid hbw; clear hbw
  go_wp2_with fail
  go_loopw [4] (fun t wr => ∃ a : Nat, a ≤ N ∧ t = .int .i64 (a : Int) ∧ wr = w1 ∧ ((List.range a).all fun a => !ptB p a a) = true) (fun t _ => N - (intOf t).toNat)
  case atStart => exact ⟨0, Nat.zero_le _, rfl, rfl, by simp⟩
  case round =>
    obtain ⟨a, ha, rfl, rfl, hal⟩ := hrel
    obtain ⟨w1, rfl⟩ : ∃ w1 : World, w1 = wr := ⟨_, rfl⟩
    have a0 : (0 : Int) ≤ (a : Int) := by omega
    by_cases hlt : a < N
    · have a1 : (a : Int) < (N : Int) := by omega
      obtain ⟨an, han⟩ : ∃ an, an = a * N := ⟨_, rfl⟩
      have han2 : (a : Int) * (N : Int) = (an : Int) := by rw [han]; simp
      have l1 := ix_lt hlt hlt
      have q1 : w1.cell? ⟨ub, a * N + a, none⟩ = some (.int .i64 (if ptB p a a then 1 else 0)) := by
        rw [HU.out.cell, intC_get, mat_at hlt hlt]; rfl
      rw [← HM.out, ← han] at l1
      rw [← han] at q1
      obtain ⟨i1, e1⟩ : ∃ i1, i1 = an + a := ⟨_, rfl⟩
      have e1' : (an : Int) + (a : Int) = (i1 : Int) := by omega
      rw [← e1] at q1 l1
      have n0 : (0 : Int) ≤ (an : Int) := by omega
      have n1 : (an : Int) < 144 := by omega
      have x0 : (0 : Int) ≤ (i1 : Int) := by omega
      have x1 : (i1 : Int) < (M : Int) := by omega
      have hnx : ((List.range (a + 1)).all fun a => !ptB p a a) = !ptB p a a := by rw [List.range_succ, List.all_append, hal]; simp
      have hfl : ptB p a a = true → tightB p = false := fun h => by
        rw [HTI.out, List.all_eq_false]
        exact ⟨a, List.mem_range.2 hlt, by rw [h]; simp⟩
      generalize ptB p a a = c1 at *
      clear han e1 hal l1
      have HNX := Lib.hid hnx; clear hnx
      have HFL := Lib.hid hfl; clear hfl
      cases c1 with
      | false =>
        simp only [Bool.false_eq_true, if_false] at q1
        go_wp2_with fail
        go_roundw
        case rel => exact ⟨a + 1, by omega, by go_num, trivial, by rw [HNX.out]; rfl⟩
        case measure => simp [intOf]; omega
      | true =>
        simp only [if_true] at q1
        have hf := HFL.out rfl
        have HF := Lib.hid hf; clear hf
        go_wp2_with fail
        go_ret
        exact ⟨ret_bool HF.out.symm, HBW.out⟩
    · have hae : N = a := by omega
      subst hae
      have a1 : ¬ (N : Int) < (N : Int) := by omega
      have hf : tightB p = true := by rw [HTI.out]; exact hal
      clear hal
      have HF := Lib.hid hf; clear hf
      go_wp2_with fail
      go_ret
      exact ⟨ret_bool HF.out.symm, HBW.out⟩
set_option maxRecDepth 100000 in
set_option maxHeartbeats 8000000 in
theorem refFree_any (p : GProg) (nA : Option Addr) (nl nc : Nat) (sA : Option Addr) (sl sc : Nat) (rA : Option Addr) (rl rc : Nat) (mA : Option Addr) (ml mc : Nat) (w : World) (hp : ProgIn w p nA nl nc sA sl sc rA rl rc mA ml mc) (hv : validE p = 0) (h12 : p.n ≤ 12) :
    Calls Try.prog 24 #[.agg #[.int .i64 p.n, .slice nA nl nc, .slice sA sl sc, .slice rA rl rc, .slice mA ml mc]] w fun e w' => e = .returned (.bool (freeB p)) ∧ Below w.heap.size w w' := by
  have hi := validE_is hv
  have h0 : 0 ≤ p.n := (namedB_n hi.named).1
  have hfr := free_ref hi
  have cP := fun W (hb : Below w.heap.size w W) => refPaths_any p nA nl nc sA sl sc rA rl rc mA ml mc W (hp.ext hb) h0 h12
  obtain ⟨N, hN⟩ : ∃ N : Nat, N = p.n.toNat := ⟨_, rfl⟩
  have hNn : p.n = (N : Int) := by omega
  have hN12 : N ≤ 12 := by omega
  rw [← hN] at cP
  have hx1 := Blk.new w 27 #[.int .i64 p.n, .slice nA nl nc, .slice sA sl sc, .slice rA rl rc, .slice mA ml mc]
  have cT := fun (ub x y : Nat) W (hx : x < N) (hy : y < N) (hu : Blk W ub 3 (intC (mat N (ptB p)))) => refTog_any p nA nl nc sA sl sc rA rl rc mA ml mc ub x y N W hNn hN12 hx hy hu
  rw [hNn] at cP hx1 cT
  rw [hNn]
  have hrc := hp.rules.cap
  have hrm := hp.rules.max
  have hrl := hp.rules.len
  have HP := Lib.hid hp; clear hp
  have HN := Lib.hid hN; clear hN
  have CP := Lib.hid cP; clear cP
  have HX1 := Lib.hid hx1; clear hx1
  have HFR := Lib.hid hfr; clear hfr
  have CT := Lib.hid cT; clear cT
  have HRL := Lib.hid hrl; clear hrl
  have HI := Lib.hid hi; clear hi
  go_enter Try.func24, Try.ntmps24
  go_wp2_with fail
  go_fit (CP.out _ (bel_alloc _ _)); rintro e w1 ⟨ub, rfl, hU, -, hb⟩
  have hx2 := HX1.out.bel hb
  have hbw := bel_trans (bel_alloc _ _) hb
  clear hb
  have HU := Lib.hid hU; clear hU
  have HX2 := Lib.hid hx2; clear hx2
  have HBW := Lib.hid hbw; clear hbw
  go_wp2_with fail
  go_loopw [4] (fun t wr => ∃ i : Nat, i ≤ rl ∧ t = .int .i64 (i : Int) ∧ Below w1.heap.size w1 wr ∧ (p.rules.take i).all (refHead p) = true) (fun t _ => rl - (intOf t).toNat)
  case atStart => exact ⟨0, Nat.zero_le _, rfl, Below.refl _ _, by simp⟩
  case round =>
    obtain ⟨i, hi2, rfl, hB, hal⟩ := hrel
    obtain ⟨wa, rfl⟩ : ∃ wa : World, wa = wr := ⟨_, rfl⟩
    have i0 : (0 : Int) ≤ (i : Int) := by omega
    have m3 : wa.cell? ⟨w.heap.size, 3, none⟩ = some (.slice rA rl rc) := (HX2.out.bel hB).cell 3
    by_cases hlt : i < rl
    · have i1 : (i : Int) < (rl : Int) := by omega
      have hpa := HP.out.ext (bel_trans HBW.out hB)
      obtain ⟨x, hx, -⟩ := hpa.rules.drop hlt
      obtain ⟨rb, ro, hA, hl, hc, bA, bl, bc, wA, wl, wc, rfl, hrb, e0, e1, e2, e3, e4, e5, j1, j2, j3, j4⟩ := hpa.rules.rule hx
      have hhr := inc_mem (HI.out.rules x (List.mem_of_getElem? hx)).head
      have hhc := j1.cap
      have hhm := j1.max
      have hhl := j1.len
      have hall : (p.rules.take (i + 1)).all (refHead p) = refHead p x := by rw [take_snoc' hx, List.all_append, hal]; simp
      have hff : refHead p x = false → freeB p = false := fun h => by
        rw [HFR.out, List.all_eq_false]
        exact ⟨x, List.mem_of_getElem? hx, by rw [h]; simp⟩
      have hrh : refHead p x = (List.range hl).all fun i => (List.range i).all fun j => x.choice || !tgB p ((x.head.getD i 0) - 1).toNat ((x.head.getD j 0) - 1).toNat := by unfold refHead; rw [hhl]
      clear hal e2 e3 e4 e5 j2 j3 j4
      have HPA := Lib.hid hpa; clear hpa
      have HX := Lib.hid hx; clear hx
      have HHR := Lib.hid hhr; clear hhr
      have HHL := Lib.hid hhl; clear hhl
      have HALL := Lib.hid hall; clear hall
      have HFF := Lib.hid hff; clear hff
      have HRH := Lib.hid hrh; clear hrh
      have HB := Lib.hid hB; clear hB
      have J1 := Lib.hid j1; clear j1
      go_wp2_with fail
      clear m3
      go_loopw [6] (fun t wr => ∃ j : Nat, j ≤ hl ∧ t = .int .i64 (j : Int) ∧ Below wa.heap.size wa wr ∧ ((List.range j).all fun i => (List.range i).all fun j => x.choice || !tgB p ((x.head.getD i 0) - 1).toNat ((x.head.getD j 0) - 1).toNat) = true) (fun t _ => hl - (intOf t).toNat)
      case atStart => exact ⟨0, Nat.zero_le _, rfl, Below.refl _ _, by simp⟩
      case round =>
        obtain ⟨j, hj, rfl, hB2, hal2⟩ := hrel
        obtain ⟨wb, rfl⟩ : ∃ wb : World, wb = wr := ⟨_, rfl⟩
        have b0 : (0 : Int) ≤ (j : Int) := by omega
        by_cases hlt2 : j < hl
        · have b1 : (j : Int) < (hl : Int) := by omega
          have HB2 := Lib.hid hB2; clear hB2
          have HAL2 := Lib.hid hal2; clear hal2
          go_wp2_with fail
          go_loopw [7] (fun t wr => ∃ q : Nat, q ≤ j ∧ t = .int .i64 (q : Int) ∧ Below wa.heap.size wa wr ∧ ((List.range q).all fun k => x.choice || !tgB p ((x.head.getD j 0) - 1).toNat ((x.head.getD k 0) - 1).toNat) = true) (fun t _ => j - (intOf t).toNat)
          case atStart => exact ⟨0, Nat.zero_le _, rfl, HB2.out, by simp⟩
          case round =>
            obtain ⟨q, hq, rfl, hB3, hal3⟩ := hrel
            obtain ⟨wc2, rfl⟩ : ∃ wc2 : World, wc2 = wr := ⟨_, rfl⟩
            have q0 : (0 : Int) ≤ (q : Int) := by omega
            by_cases hlt3 : q < j
            · have q1 : (q : Int) < (j : Int) := by omega
              have q2 : (q : Int) < (hl : Int) := by omega
              have hh := J1.out.ext hB3
              obtain ⟨y, hy, -⟩ := hh.drop hlt2
              obtain ⟨z, hz, -⟩ := hh.drop (show q < hl by omega)
              obtain ⟨yb, yo, e, _, hym, -⟩ := hh.int hy
              cases e
              obtain ⟨_, _, e, _, hzm, -⟩ := hh.int hz
              cases e
              have hyr := HHR.out y (List.mem_of_getElem? hy)
              have hzr := HHR.out z (List.mem_of_getElem? hz)
              obtain ⟨yn, rfl⟩ : ∃ n : Nat, y = (n : Int) + 1 := ⟨(y - 1).toNat, by omega⟩
              obtain ⟨zn, rfl⟩ : ∃ n : Nat, z = (n : Int) + 1 := ⟨(z - 1).toNat, by omega⟩
              have hgy : x.head.getD j 0 = (yn : Int) + 1 := by rw [List.getD_eq_getElem?_getD, hy]; rfl
              have hgz : x.head.getD q 0 = (zn : Int) + 1 := by rw [List.getD_eq_getElem?_getD, hz]; rfl
              have hnx : ((List.range (q + 1)).all fun k => x.choice || !tgB p ((x.head.getD j 0) - 1).toNat ((x.head.getD k 0) - 1).toNat) = (x.choice || !tgB p yn zn) := by
                rw [List.range_succ, List.all_append, hal3, List.all_cons, List.all_nil, hgy, hgz, show ((yn : Int) + 1 - 1).toNat = yn by omega, show ((zn : Int) + 1 - 1).toNat = zn by omega]; simp
              have hxc := HX2.out.bel (bel_trans HB.out hB3)
              have hUc := HU.out.bel (bel_trans HB.out hB3)
              have hyN : yn < N := by omega
              have hzN : zn < N := by omega
              have hbad : x.choice = false → tgB p yn zn = true → refHead p x = false := fun h1 h2 => by
                rw [HRH.out, List.all_eq_false]
                refine ⟨j, List.mem_range.2 hlt2, ?_⟩
                rw [Bool.not_eq_true, List.all_eq_false]
                refine ⟨q, List.mem_range.2 hlt3, ?_⟩
                rw [hgy, hgz, show ((yn : Int) + 1 - 1).toNat = yn by omega, show ((zn : Int) + 1 - 1).toNat = zn by omega, h1, h2]; simp
              have g0 : wc2.cell? ⟨rb, ro + i * 6, none⟩ = some (.bool x.choice) := (hB3.cell (World.block_lt_of_cell? _ _ e0)).trans e0
              have hbz := bel_trans (bel_trans HBW.out HB.out) hB3
              obtain ⟨p0, p1, p2, p3, p4, p5⟩ := pcells hxc
              obtain ⟨ch, hch⟩ : ∃ ch, ch = x.choice := ⟨_, rfl⟩
              rw [← hch] at g0
              clear hal3 hgy hgz
              have HH := Lib.hid hh; clear hh
              have HY := Lib.hid hy; clear hy
              have HZ := Lib.hid hz; clear hz
              have HYR := Lib.hid hyr; clear hyr
              have HZR := Lib.hid hzr; clear hzr
              have HNX := Lib.hid hnx; clear hnx
              have HXC := Lib.hid hxc; clear hxc
              have HUC := Lib.hid hUc; clear hUc
              have HBAD := Lib.hid hbad; clear hbad
              have HB3 := Lib.hid hB3; clear hB3
              have HBZ := Lib.hid hbz; clear hbz
              have HCH := Lib.hid hch; clear hch
              cases ch with
              | true =>
                go_wp2_with fail
                go_quiet (fail)
                go_wp2_with fail
                go_roundw
                case rel => exact ⟨q + 1, by omega, by go_num, below_drewN HB3.out _, by rw [HNX.out, ← HCH.out]; rfl⟩
                case measure => simp [intOf]; omega
              | false =>
                go_wp2_with fail
                refine wp_region_later [(⟨w.heap.size, 0, none⟩, .int .i64 (N : Int)), (⟨w.heap.size, 1, none⟩, .slice nA nl nc), (⟨w.heap.size, 2, none⟩, .slice sA sl sc), (⟨w.heap.size, 3, none⟩, .slice (some ⟨rb, ro, none⟩) rl rc), (⟨w.heap.size, 4, none⟩, .slice mA ml mc), (⟨rb, ro + i * 6, none⟩, .bool false), (⟨yb, yo + j, none⟩, .int .i64 ((yn : Int) + 1)), (⟨yb, yo + q, none⟩, .int .i64 ((zn : Int) + 1))] (by kernel_rfl) (by kernel_rfl) (by simp [go_sem, *]) ?_
                intro hk; simp only [List.forall_mem_cons] at hk; obtain ⟨k0, k1, k2, k3, k4, k5, k6, k7, k9⟩ := hk; clear k9
                repeat go_big_quiet_step ((go_at_call 45; exact Calls.later (CT.out ub yn zn _ hyN hzN (HUC.out.bel (Later.h _)))))
                refine wpQuiet_nil ?_
                rintro w2 ⟨u2, rfl⟩
                have hB4 := bel_trans HB3.out u2.h
                have hbz4 := bel_trans HBZ.out u2.h
                generalize u2.w = w9 at *
                clear k0 k1 k2 k3 k4 k5 k6 k7
                cases htg : tgB p yn zn with
                | true =>
                  have hf := HFF.out (HBAD.out HCH.out.symm htg)
                  have HF := Lib.hid hf; clear hf
                  have HB4 := Lib.hid hB4; clear hB4
                  have HBZ4 := Lib.hid hbz4; clear hbz4
                  have HTG := Lib.hid htg; clear htg
                  go_wp2_with fail
                  go_ret
                  exact ⟨ret_bool HF.out.symm, HBZ4.out⟩
                | false =>
                  have HB4 := Lib.hid hB4; clear hB4
                  have HBZ4 := Lib.hid hbz4; clear hbz4
                  have HTG := Lib.hid htg; clear htg
                  go_wp2_with fail
                  go_roundw
                  case rel => exact ⟨q + 1, by omega, by go_num, HB4.out, by rw [HNX.out, ← HCH.out, HTG.out]; rfl⟩
                  case measure => simp [intOf]; omega
            · have hqe : j = q := by omega
              subst hqe
              have q1 : ¬ (j : Int) < (j : Int) := by omega
              have hnx : ((List.range (j + 1)).all fun i => (List.range i).all fun j => x.choice || !tgB p ((x.head.getD i 0) - 1).toNat ((x.head.getD j 0) - 1).toNat) = true := by
                rw [List.range_succ, List.all_append, HAL2.out, List.all_cons, List.all_nil, hal3]; rfl
              clear hal3
              have HB3 := Lib.hid hB3; clear hB3
              have HNX := Lib.hid hnx; clear hnx
              go_wp2_with fail
              go_roundw
              case rel => exact ⟨j + 1, by omega, by go_num, HB3.out, HNX.out⟩
              case measure => simp [intOf]; omega
        · have hje : hl = j := by omega
          subst hje
          have b1 : ¬ (hl : Int) < (hl : Int) := by omega
          rw [← HRH.out, ← HALL.out] at hal2
          have hB4 := bel_trans HB.out hB2
          have HB2 := Lib.hid hB2; clear hB2
          have HAL2 := Lib.hid hal2; clear hal2
          have HB4 := Lib.hid hB4; clear hB4
          go_wp2_with fail
          go_roundw
          case rel => exact ⟨i + 1, by omega, by go_num, HB4.out, HAL2.out⟩
          case measure => simp [intOf]; omega
    · have hie : rl = i := by omega
      subst hie
      have i1 : ¬ (rl : Int) < (rl : Int) := by omega
      rw [List.take_of_length_le (by have := HRL.out; omega), ← HFR.out] at hal
      have hbz := bel_trans HBW.out hB
      have HB := Lib.hid hB; clear hB
      have HAL := Lib.hid hal; clear hal
      have HBZ := Lib.hid hbz; clear hbz
      go_wp2_with fail
      go_ret
      exact ⟨ret_bool HAL.out.symm, HBZ.out⟩
end Go.Proofs.Ytbfbkpoakmnlpaa

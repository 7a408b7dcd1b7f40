/- The law GraphTight: it answers true and changes nothing that was there. -/
import Derived.Test.YtbfbkpoakmnlpaaGV
import Derived.Test.YtbfbkpoakmnlpaaReb
import Derived.Test.YtbfbkpoakmnlpaaTgp
import Derived.Test.YtbfbkpoakmnlpaaTgx
import Derived.Deep.QuietTactic
import Derived.BigQuiet
namespace Go.Proofs.Ytbfbkpoakmnlpaa
open Go.RowKit

/-- The walks of k and of k + 1 steps: the atoms below a have taken the next step. -/
def nowS (es : List (Int × Int)) (n k a : Nat) : List Nat := (List.range (n + 1)).map fun x => if x = 0 then 0 else if x < a then nowK es x (k + 1) else nowK es x k
def nowI (n a : Nat) : List Nat := (List.range (n + 1)).map fun x => if x = 0 then 0 else if x < a then 2 ^ x else 0
theorem nowS_len (es : List (Int × Int)) (n k a : Nat) : (nowS es n k a).length = n + 1 := by unfold nowS; simp
theorem nowI_len (n a : Nat) : (nowI n a).length = n + 1 := by unfold nowI; simp
theorem nowI_one (n : Nat) : nowI n 1 = List.replicate (n + 1) 0 := by
  unfold nowI
  apply List.ext_getElem
  · simp
  · intro i h1 h2
    simp only [List.getElem_map, List.getElem_range, List.getElem_replicate]
    split
    · rfl
    · rw [if_neg (by omega)]
theorem nowI_set {n a : Nat} (h1 : 1 ≤ a) : (nowI n a).set a (2 ^ a) = nowI n (a + 1) := by
  unfold nowI
  apply List.ext_getElem
  · simp
  · intro i q1 q2
    rw [List.getElem_set]
    simp only [List.getElem_map, List.getElem_range]
    by_cases e : a = i
    · subst e
      rw [if_pos rfl, if_neg (by omega), if_pos (by omega)]
    · rw [if_neg e]
      by_cases h0 : i = 0
      · rw [if_pos h0, if_pos h0]
      · rw [if_neg h0, if_neg h0]
        by_cases h2 : i < a
        · rw [if_pos h2, if_pos (by omega)]
        · rw [if_neg h2, if_neg (by omega)]
theorem nowI_end (es : List (Int × Int)) (n : Nat) : nowI n (n + 1) = nowS es n 0 1 := by
  unfold nowI nowS
  apply List.map_congr_left
  intro x hx
  have := List.mem_range.1 hx
  by_cases h0 : x = 0
  · rw [if_pos h0, if_pos h0]
  · rw [if_neg h0, if_neg h0, if_pos (by omega), if_neg (by omega)]; rfl
theorem nowS_set {es : List (Int × Int)} {n k a : Nat} (h1 : 1 ≤ a) : (nowS es n k a).set a (nowK es a (k + 1)) = nowS es n k (a + 1) := by
  unfold nowS
  apply List.ext_getElem
  · simp
  · intro i q1 q2
    rw [List.getElem_set]
    simp only [List.getElem_map, List.getElem_range]
    by_cases e : a = i
    · subst e
      rw [if_pos rfl, if_neg (by omega), if_pos (by omega)]
    · rw [if_neg e]
      by_cases h0 : i = 0
      · rw [if_pos h0, if_pos h0]
      · rw [if_neg h0, if_neg h0]
        by_cases h2 : i < a
        · rw [if_pos h2, if_pos (by omega)]
        · rw [if_neg h2, if_neg (by omega)]
theorem nowS_end (es : List (Int × Int)) (n k : Nat) : nowS es n k (n + 1) = nowS es n (k + 1) 1 := by
  unfold nowS
  apply List.map_congr_left
  intro x hx
  have := List.mem_range.1 hx
  by_cases h0 : x = 0
  · rw [if_pos h0, if_pos h0]
  · rw [if_neg h0, if_neg h0, if_pos (by omega), if_neg (by omega)]
theorem nowS_at {es : List (Int × Int)} {n k a : Nat} (h1 : 1 ≤ a) (h2 : a ≤ n) : nthN (nowS es n k a) a = nowK es a k := by
  unfold nthN nowS
  rw [List.getD_eq_getElem?_getD, List.getElem?_map, List.getElem?_range (by omega)]
  simp only [Option.map_some, Option.getD_some]
  rw [if_neg (by omega), if_neg (by omega)]
theorem nowK_low {es : List (Int × Int)} (he : ∀ e ∈ es, 0 ≤ e.2 ∧ e.2 < 13) {a : Nat} (ha : a < 13) : ∀ k, nowK es a k < 8192
  | 0 => Nat.pow_lt_pow_right (m := a) (n := 13) (by omega) ha
  | k + 1 => nx_low _ es 0 he (by omega)
set_option maxRecDepth 100000 in
set_option maxHeartbeats 8000000 in
theorem graphTight_law (p : GProg) (nA : Option Addr) (nl nc : Nat) (sA : Option Addr) (sl sc : Nat) (rA : Option Addr) (rl rc : Nat) (mA : Option Addr) (ml mc : Nat) (w : World) (hp : ProgIn w p nA nl nc sA sl sc rA rl rc mA ml mc) :
    Calls Try.prog 5 #[.agg #[.int .i64 p.n, .slice nA nl nc, .slice sA sl sc, .slice rA rl rc, .slice mA ml mc]] w fun e w' => e = .returned (.bool true) ∧ Below w.heap.size w w' := by
  have cSm := fun W (hb : Below w.heap.size w W) => fine_any p nA nl nc sA sl sc rA rl rc mA ml mc W (hp.ext hb)
  have cA := awake21_any
  have hx0 := Blk.new w 27 #[.int .i64 p.n, .slice nA nl nc, .slice sA sl sc, .slice rA rl rc, .slice mA ml mc]
  cases hq : fineB p with
  | false =>
    rw [hq] at cSm
    have HP := Lib.hid hp; clear hp
    have CSM := Lib.hid cSm; clear cSm
    have CA := Lib.hid cA; clear cA
    have HX0 := Lib.hid hx0; clear hx0
    have HQ := Lib.hid hq; clear hq
    go_enter Try.func5, Try.ntmps5
    go_wp2_with fail
    go_fit (CSM.out _ (bel_alloc _ _)); rintro e w1 ⟨rfl, hb1⟩
    have HBW := Lib.hid (bel_trans (bel_alloc _ _) hb1)
    have HX := Lib.hid (HX0.out.bel hb1)
    clear hb1
    go_wp2_with fail
    go_fit (CA.out _); rintro e wz ⟨rfl, hbz⟩
    have HB3 := Lib.hid (bel_trans HBW.out hbz)
    clear hbz
    go_wp2_with fail
    go_ret
    exact ⟨rfl, HB3.out⟩
  | true =>
    rw [hq] at cSm
    obtain ⟨hfew, hv⟩ := fine_is hq
    have hpi := validE_is hv
    have hn0 : 0 ≤ p.n := (namedB_n hpi.named).1
    have hn12 := fine_n hfew
    have cTi := fun W (hb : Below w.heap.size w W) => tight_any p nA nl nc sA sl sc rA rl rc mA ml mc W (hp.ext hb) hv
    have cCy := fun W (hb : Below w.heap.size w W) => cycle_any p nA nl nc sA sl sc rA rl rc mA ml mc W (hp.ext hb) hv
    have cEd := fun W (hb : Below w.heap.size w W) => edges_any p nA nl nc sA sl sc rA rl rc mA ml mc W (hp.ext hb) hv
    have cRe := fun W (hb : Below w.heap.size w W) => reach_any p nA nl nc sA sl sc rA rl rc mA ml mc W (hp.ext hb) hv hn12
    have L := Lib.hid (tight_law hpi)
    have hemp := L.out.emp
    have hrnd := L.out.rnd
    obtain ⟨T, hTt⟩ : ∃ T, T = rchL p := ⟨_, rfl⟩
    have hTl := rchL_len p
    have hTw := rchL_low hpi hn12
    rw [← hTt] at hTl hTw cRe hrnd
    obtain ⟨N, hN⟩ : ∃ N : Nat, N = p.n.toNat := ⟨_, rfl⟩
    have hNn : p.n = (N : Int) := by omega
    have hN12 : N ≤ 12 := by omega
    have her : ∀ e ∈ edgeL p, (0 ≤ e.1 ∧ e.1 < (N : Int) + 1) ∧ 1 ≤ e.2 ∧ e.2 < (N : Int) + 1 := fun e he => by
      have := edge_rng (of_ok hpi hn0 (namedB_n hpi.named).2) (of_len p) e he
      omega
    have hclen : (cycL p).length ≤ N + 1 := by
      refine nodup_le (N + 1) _ ?_ (fun k hk => by have := L.out.rng k hk; omega)
      rw [List.Nodup, List.pairwise_iff_getElem]
      intro i j hi hj hij
      exact fun e => L.out.nod j i _ _ hij (List.getElem?_eq_getElem hj) (List.getElem?_eq_getElem hi) e.symm
    rw [← hN] at cRe hTl hrnd
    rw [hNn] at cSm cTi cCy cEd cRe hx0
    rw [hNn]
    have hmk : ∀ W : World, (Instr.makeSlice 48 (.int .i64 ((N : Int) + 1)) (.int .i64 ((N : Int) + 1))).run Try.prog W = .ok (.slice (some ⟨W.heap.size, 0, none⟩) (N + 1) (N + 1)) (W.alloc (.cells (u64C (nowI N 1)) 50)) := fun W => by
      have h := run_make_row' (P := Try.prog) 48 50 (.int .u64 0) 8 Try.underlying48 (by kernel_rfl) rfl .i64 .i64 (N + 1) (by omega) (by omega) W
      have e : madeCells #[Value.int .u64 0] (N + 1) = u64C (nowI N 1) := by
        rw [nowI_one]
        unfold madeCells u64C
        apply Array.ext
        · simp
        · intro i h1 h2
          simp [Nat.mod_one]
      rw [e] at h
      simpa using h
    generalize tightB p = ti at *
    have HTT := Lib.hid hTt; clear hTt
    have HP := Lib.hid hp; clear hp
    have CSM := Lib.hid cSm; clear cSm
    have CA := Lib.hid cA; clear cA
    have HX0 := Lib.hid hx0; clear hx0
    have HQ := Lib.hid hq; clear hq
    have HV := Lib.hid hv; clear hv
    have HPI := Lib.hid hpi; clear hpi
    have HFEW := Lib.hid hfew; clear hfew
    have CTI := Lib.hid cTi; clear cTi
    have CCY := Lib.hid cCy; clear cCy
    have CED := Lib.hid cEd; clear cEd
    have CRE := Lib.hid cRe; clear cRe
    have HTL := Lib.hid hTl; clear hTl
    have HTW := Lib.hid hTw; clear hTw
    have HN := Lib.hid hN; clear hN
    have HEMP := Lib.hid hemp; clear hemp
    have HRND := Lib.hid hrnd; clear hrnd
    have HER := Lib.hid her; clear her
    have HCLEN := Lib.hid hclen; clear hclen
    go_enter Try.func5, Try.ntmps5
    go_wp2_with fail
    go_fit (CSM.out _ (bel_alloc _ _)); rintro e w1 ⟨rfl, hb1⟩
    have HBW := Lib.hid (bel_trans (bel_alloc _ _) hb1)
    have HX := Lib.hid (HX0.out.bel hb1)
    clear hb1
    obtain ⟨p0, p1, p2, p3, p4, p5⟩ := pcells HX.out
    go_wp2_with fail
    go_fit (CTI.out _ HBW.out); rintro e w2 ⟨rfl, hb⟩
    have HBW' := Lib.hid (bel_trans HBW.out hb)
    have HX' := Lib.hid (HX.out.bel hb)
    clear HBW HX
    have HBW := HBW'
    have HX := HX'
    clear HBW' HX'
    clear p0 p1 p2 p3 p4 p5
    obtain ⟨p0, p1, p2, p3, p4, p5⟩ := pcells HX.out
    go_wp2_with fail
    go_fit (CCY.out _ HBW.out); rintro e w3 ⟨cA, cl, cc, rfl, hC, -, hb⟩
    have HC := Lib.hid hC
    clear hC
    have HBW' := Lib.hid (bel_trans HBW.out hb)
    have HX' := Lib.hid (HX.out.bel hb)
    clear HBW HX
    have HBW := HBW'
    have HX := HX'
    clear HBW' HX'
    clear p0 p1 p2 p3 p4 p5
    obtain ⟨p0, p1, p2, p3, p4, p5⟩ := pcells HX.out
    go_wp2_with fail
    go_fit (CED.out _ HBW.out); rintro e w4 ⟨eA, el, ec, rfl, hE, -, hb⟩
    have HC4 := Lib.hid (HC.out.ext hb)
    have HE := Lib.hid hE
    clear hE
    have HBW' := Lib.hid (bel_trans HBW.out hb)
    have HX' := Lib.hid (HX.out.bel hb)
    clear HBW HX
    have HBW := HBW'
    have HX := HX'
    clear HBW' HX'
    clear p0 p1 p2 p3 p4 p5
    obtain ⟨p0, p1, p2, p3, p4, p5⟩ := pcells HX.out
    have hcl2 := HC4.out.len
    have hcc := HC4.out.cap
    have hcm := HC4.out.max
    have hec := HE.out.cap
    have hem := HE.out.max
    have hz : ((cl : Int) == 0) = ti := by
      rw [HEMP.out, hcl2, Bool.eq_iff_iff, beq_iff_eq, decide_eq_true_eq]; omega
    have hcN : cl ≤ 13 := by have := HCLEN.out; omega
    have hb := bel_alloc w4 (.cells #[.slice eA el ec] 30)
    have hbx := Blk.new w4 30 #[.slice eA el ec]
    have HC5 := Lib.hid (HC4.out.ext hb)
    have HE5 := Lib.hid (HE.out.ext hb)
    have HBW5 := Lib.hid (bel_trans HBW.out hb)
    have HX5 := Lib.hid (HX.out.bel hb)
    have hbz : w.heap.size < w4.heap.size := HX.out.lt
    clear hb HC HC4 HE
    have HBX := Lib.hid hbx; clear hbx
    have HCL2 := Lib.hid hcl2; clear hcl2
    go_wp2_with fail
    go_fit (CRE.out _ HBW5.out); rintro e w6 ⟨ub, rfl, hT, hub, hb⟩
    have hC6 := HC5.out.ext hb
    have hE6 := HE5.out.ext hb
    have hbw6 := bel_trans HBW5.out hb
    have hx6 := HX5.out.bel hb
    have hb6 := HBX.out.bel hb
    have hm0 : w6.cell? ⟨w.heap.size, 0, none⟩ = some (.int .i64 (N : Int)) := hx6.cell 0
    have hxlt : w.heap.size < w6.heap.size := hx6.lt
    clear hb hub HC5 HE5 HBW5 HX5 HBX
    clear p0 p1 p2 p3 p4 p5
    have HC6 := Lib.hid hC6; clear hC6
    have HE6 := Lib.hid hE6; clear hE6
    have HBW6 := Lib.hid hbw6; clear hbw6
    have HX6 := Lib.hid hx6; clear hx6
    have HB6 := Lib.hid hb6; clear hb6
    have HT := Lib.hid hT; clear hT
    obtain ⟨bx, hbxe⟩ : ∃ bx, bx = w4.heap.size := ⟨_, rfl⟩
    rw [← hbxe]
    have hb6 := HB6.out
    rw [← hbxe] at hb6
    clear hbxe HB6 hbz
    have HB6 := Lib.hid hb6; clear hb6
    go_wp2_with fail
    go_loopw [10, 11] (fun v t wr => ∃ a : Nat, a ≤ N ∧ v = .bool ((List.range a).any fun a => bitN T ((a : Int) + 1) ((a : Int) + 1)) ∧ t = .int .i64 ((a : Int) + 1) ∧ wr = w6) (fun _ t _ => N + 1 - (intOf t).toNat)
    case atStart => exact ⟨0, Nat.zero_le _, by simp, rfl, rfl⟩
    case round =>
      obtain ⟨a, ha, rfl, rfl, rfl⟩ := hrel
      obtain ⟨w6, rfl⟩ : ∃ w6 : World, w6 = wr := ⟨_, rfl⟩
      have a0 : (0 : Int) ≤ (a : Int) + 1 := by omega
      by_cases hlt : a < N
      · have a1 : (a : Int) + 1 ≤ (N : Int) := by omega
        have a2 : (a : Int) + 1 < (N : Int) + 1 := by omega
        have htb : w6.cell? ⟨ub, a + 1, none⟩ = some (.int .u64 (nthN T (a + 1) : Int)) := by rw [HT.out.cell]; exact u64C_at (by have := HTL.out; omega)
        have z1 := and_one (b := a + 1) (show nthN T (a + 1) < 8192 from HTW.out (a + 1))
        have hnx : ((List.range (a + 1)).any fun a => bitN T ((a : Int) + 1) ((a : Int) + 1)) = (((List.range a).any fun a => bitN T ((a : Int) + 1) ((a : Int) + 1)) || (nthN T (a + 1)).testBit (a + 1)) := by rw [List.range_succ, List.any_append]; simp; rfl
        generalize ((List.range a).any fun a => bitN T ((a : Int) + 1) ((a : Int) + 1)) = ac at *
        have HNX := Lib.hid hnx; clear hnx
        cases ac with
        | true =>
          clear z1
          go_wp2_with fail
          go_roundw
          case rel => exact ⟨a + 1, by omega, by rw [HNX.out]; simp, by go_num, trivial⟩
          case measure => simp [intOf]; omega
        | false =>
          go_wp2_with fail
          go_roundw
          case rel => exact ⟨a + 1, by omega, by rw [HNX.out]; simp, by go_num, trivial⟩
          case measure => simp [intOf]; omega
      · have hae : N = a := by omega
        subst hae
        rw [HRND.out]
        have hti : ((!ti) == ti) = false := by cases ti <;> rfl
        have a1 : ¬ (N : Int) + 1 ≤ (N : Int) := by omega
        go_wp2_with fail
        clear a1 hti a0
        go_loopw [87] (fun t wr => ∃ i : Nat, i ≤ cl ∧ t = .int .i64 (i : Int) ∧ Below w6.heap.size w6 wr) (fun t _ => cl - (intOf t).toNat)
        case atStart => exact ⟨0, Nat.zero_le _, rfl, Below.refl _ _⟩
        case round =>
          obtain ⟨i, hi, rfl, hB⟩ := hrel
          obtain ⟨wa, rfl⟩ : ∃ wa : World, wa = wr := ⟨_, rfl⟩
          by_cases hlt2 : i < cl
          · have i0 : (0 : Int) ≤ (i : Int) := by omega
            have i1 : (i : Int) < (cl : Int) := by omega
            have hC9 := HC6.out.ext hB
            obtain ⟨y, hy, -⟩ := hC9.drop hlt2
            obtain ⟨yb, yo, e1, _, hym, hy64⟩ := hC9.int hy
            cases e1
            obtain ⟨h0, hh0, -⟩ := hC9.drop (show 0 < cl by omega)
            obtain ⟨_, _, e1, _, hhm, -⟩ := hC9.int hh0
            cases e1
            have hhm0 : wa.cell? ⟨yb, yo, none⟩ = some (.int .i64 h0) := hhm
            have hmod : (i + 1) % cl < cl := Nat.mod_lt _ (by omega)
            obtain ⟨z, hz, -⟩ := hC9.drop hmod
            obtain ⟨_, _, e1, _, hzm, hz64⟩ := hC9.int hz
            cases e1
            have hge := L.out.head i y h0 hy hh0
            have hed := L.out.edge i (by have := HCL2.out; omega) y z hy (by rw [← HCL2.out]; exact hz)
            have hlt0 : ¬ y < h0 := by omega
            have hdd : decide (y < h0) = false := decide_eq_false hlt0
            have cEx := edge1_any bx eA el ec (edgeL p) y z wa (HB6.out.bel hB) (HE6.out.ext hB)
            rw [decide_eq_true hed] at cEx
            obtain ⟨m, hme⟩ : ∃ m, m = (i + 1) % cl := ⟨_, rfl⟩
            rw [← hme] at hz hzm hmod
            have hmi : ((i : Int) + 1) % (cl : Int) = (m : Int) := by rw [hme]; simp
            have hmt : ((i : Int) + 1).tmod (cl : Int) = (m : Int) := by rw [Int.tmod_eq_emod_of_nonneg (by omega)]; exact hmi
            have m0 : (0 : Int) ≤ (m : Int) := by omega
            have m1 : (m : Int) < (cl : Int) := by omega
            have hcz : ¬ (cl : Int) = 0 := by omega
            clear hhm hge hed hme
            have HC9 := Lib.hid hC9; clear hC9
            have HY := Lib.hid hy; clear hy
            have HH0 := Lib.hid hh0; clear hh0
            have HZ := Lib.hid hz; clear hz
            have HB := Lib.hid hB; clear hB
            have HY64 := Lib.hid hy64; clear hy64
            have HZ64 := Lib.hid hz64; clear hz64
            have CEX := Lib.hid cEx; clear cEx
            go_wp2_with fail
            go_fit CEX.out; rintro e wb ⟨rfl, hb⟩
            have hbb := bel_trans HB.out hb
            have hC9b := HC9.out.ext hb
            clear hb hym hhm0 hzm
            have HBB := Lib.hid hbb; clear hbb
            have HC9B := Lib.hid hC9b; clear hC9b
            go_wp2_with fail
            go_loopw [115] (fun t wr => ∃ j : Nat, j ≤ i ∧ t = .int .i64 (j : Int) ∧ wr = wb) (fun t _ => i - (intOf t).toNat)
            case atStart => exact ⟨0, Nat.zero_le _, rfl, rfl⟩
            case round =>
              obtain ⟨j, hj, rfl, rfl⟩ := hrel
              obtain ⟨wb, rfl⟩ : ∃ wb : World, wb = wr := ⟨_, rfl⟩
              by_cases hlt3 : j < i
              · have j0 : (0 : Int) ≤ (j : Int) := by omega
                have j1 : (j : Int) < (i : Int) := by omega
                obtain ⟨v, hv2, -⟩ := HC9B.out.drop (show j < cl by omega)
                obtain ⟨_, _, e1, _, hvm, hv64⟩ := HC9B.out.int hv2
                cases e1
                have hnn := L.out.nod i j y v hlt3 HY.out hv2
                have hdd2 : (y == v) = false := by simpa using hnn
                have hdd3 : decide (y = v) = false := decide_eq_false hnn
                have HV2 := Lib.hid hv2; clear hv2
                have HV64 := Lib.hid hv64; clear hv64
                go_wp2_with fail
                go_roundw
                case rel => exact ⟨j + 1, by omega, by go_num, trivial⟩
                case measure => simp [intOf]; omega
              · have hje : i = j := by omega
                subst hje
                have j1 : ¬ (i : Int) < (i : Int) := by omega
                go_wp2_with fail
                go_roundw
                case rel => exact ⟨i + 1, by omega, by go_num, HBB.out⟩
                case measure => simp [intOf]; omega
          · have hie : cl = i := by omega
            subst hie
            have i1 : ¬ (cl : Int) < (cl : Int) := by omega
            have hm9 : wa.cell? ⟨w.heap.size, 0, none⟩ = some (.int .i64 (N : Int)) := (hB.cell hxlt).trans hm0
            have hb9 := bel_trans HBW6.out hB
            have hE9 := HE6.out.ext hB
            have hx9 := HB6.out.bel hB
            have hbx9 : bx < wa.heap.size := hx9.lt
            have hxa : w.heap.size < wa.heap.size := Nat.lt_of_lt_of_le hxlt hB.size
            have hn5 := Blk.new wa 50 (u64C (nowI N 1))
            have hbn := bel_alloc wa (.cells (u64C (nowI N 1)) 50)
            clear hm0 hxlt
            have HB := Lib.hid hB; clear hB
            have HB9 := Lib.hid hb9; clear hb9
            have HE9 := Lib.hid hE9; clear hE9
            have HX9 := Lib.hid hx9; clear hx9
            have HN5 := Lib.hid hn5; clear hn5
            have HBN := Lib.hid hbn; clear hbn
            go_wp2_with fail
            clear hmk i1
            generalize wa.alloc (.cells (u64C (nowI N 1)) 50) = wn at *
            go_loopw [18] (fun t wr => ∃ a : Nat, 1 ≤ a ∧ a ≤ N + 1 ∧ t = .int .i64 (a : Int) ∧ Blk wr wa.heap.size 50 (u64C (nowI N a)) ∧ Below wa.heap.size wa wr) (fun t _ => N + 2 - (intOf t).toNat)
            case atStart => exact ⟨1, Nat.le_refl _, by omega, rfl, HN5.out, HBN.out⟩
            case round =>
              obtain ⟨a, ha1, ha2, rfl, hN1, hB1⟩ := hrel
              obtain ⟨w8, rfl⟩ : ∃ w8 : World, w8 = wr := ⟨_, rfl⟩
              have hm8 : w8.cell? ⟨w.heap.size, 0, none⟩ = some (.int .i64 (N : Int)) := (hB1.cell (by exact hxa)).trans hm9
              have a0 : (0 : Int) ≤ (a : Int) := by omega
              by_cases hlt2 : a ≤ N
              · have a1 : (a : Int) ≤ (N : Int) := by omega
                have a2 : (a : Int) < (N : Int) + 1 := by omega
                have hwp := wrap_pow (v := a) (by omega)
                have hpc : ((2 ^ a : Nat) : Int) = (2 : Int) ^ a := by simp
                rw [hpc] at hwp
                have hcl0 : ∃ v0, w8.cell? ⟨wa.heap.size, a, none⟩ = some v0 := ⟨_, by rw [hN1.cell]; exact u64C_at (by rw [nowI_len]; omega)⟩
                obtain ⟨v0, hv0⟩ := hcl0
                have hz0 := hN1.frozen a
                have hn9 := hN1.set_ a (.int .u64 ((2 : Int) ^ a))
                rw [← hpc, u64C_set, nowI_set ha1, hpc] at hn9
                have hb91 := Kept.below hB1 ((Kept.refl [wa.heap.size] w8).set (p := ⟨wa.heap.size, a, none⟩) (.inl (by simp)) (.int .u64 ((2 : Int) ^ a))) hB1.size (by simp)
                have HN1 := Lib.hid hN1; clear hN1
                have HB1 := Lib.hid hB1; clear hB1
                have HN9 := Lib.hid hn9; clear hn9
                have HB91 := Lib.hid hb91; clear hb91
                have HPC := Lib.hid hpc; clear hpc
                go_wp2_with fail
                go_roundw
                case rel => exact ⟨a + 1, by omega, by omega, by go_num, HN9.out, HB91.out⟩
                case measure => simp [intOf]; omega
              · have hae : a = N + 1 := by omega
                subst hae
                rw [nowI_end (edgeL p)] at hN1
                have a1 : ¬ (N : Int) + 1 ≤ (N : Int) := by omega
                have HN1 := Lib.hid hN1; clear hN1
                have HB1 := Lib.hid hB1; clear hB1
                go_wp2_with fail
                clear a1 hm8 a0
                go_loopw [19] (fun t wr => ∃ k : Nat, k ≤ 13 ∧ t = .int .i64 ((k : Int) + 1) ∧ Blk wr wa.heap.size 50 (u64C (nowS (edgeL p) N k 1)) ∧ Below wa.heap.size wa wr) (fun t _ => 15 - (intOf t).toNat)
                case atStart => exact ⟨0, Nat.zero_le _, rfl, HN1.out, HB1.out⟩
                case round =>
                  obtain ⟨k, hk, rfl, hN2, hB2⟩ := hrel
                  obtain ⟨w8, rfl⟩ : ∃ w8 : World, w8 = wr := ⟨_, rfl⟩
                  have k0 : (0 : Int) ≤ (k : Int) + 1 := by omega
                  by_cases hlt2 : k + 1 < cl
                  · have k1 : (k : Int) + 1 < (cl : Int) := by omega
                    have HN2 := Lib.hid hN2; clear hN2
                    have HB2 := Lib.hid hB2; clear hB2
                    go_wp2_with fail
                    go_loopw [20] (fun t wr => ∃ a : Nat, 1 ≤ a ∧ a ≤ N + 1 ∧ t = .int .i64 (a : Int) ∧ Blk wr wa.heap.size 50 (u64C (nowS (edgeL p) N k a)) ∧ Below wa.heap.size wa wr) (fun t _ => N + 2 - (intOf t).toNat)
                    case atStart => exact ⟨1, Nat.le_refl _, by omega, rfl, HN2.out, HB2.out⟩
                    case round =>
                      obtain ⟨a, ha1, ha2, rfl, hN3, hB3⟩ := hrel
                      obtain ⟨w9, rfl⟩ : ∃ w9 : World, w9 = wr := ⟨_, rfl⟩
                      have hm8 : w9.cell? ⟨w.heap.size, 0, none⟩ = some (.int .i64 (N : Int)) := (hB3.cell (by exact hxa)).trans hm9
                      have a0 : (0 : Int) ≤ (a : Int) := by omega
                      by_cases hlt3 : a ≤ N
                      · have a1 : (a : Int) ≤ (N : Int) := by omega
                        have a2 : (a : Int) < (N : Int) + 1 := by omega
                        have hx0 : w9.cell? ⟨bx, 0, none⟩ = some (.slice eA el ec) := (HX9.out.bel hB3).cell 0
                        have hal : a < 13 := by omega
                        have hel := HE9.out.len
                        have hqq := nowS_at (es := edgeL p) (k := k) ha1 hlt3
                        have hql := nowK_low (es := edgeL p) (fun e he => by have := HER.out e he; omega) hal k
                        have hqn := nowK_low (es := edgeL p) (fun e he => by have := HER.out e he; omega) hal (k + 1)
                        have hwk := L.out.walk a ha1 (by omega) (k + 1) (by omega) (by have := HCL2.out; omega)
                        have hnx : nowK (edgeL p) a (k + 1) = (edgeL p).foldl (nxStep (nowK (edgeL p) a k)) 0 := rfl
                        have hset := nowS_set (es := edgeL p) (n := N) (k := k) ha1
                        have hE10 := HE9.out.ext hB3
                        generalize nowK (edgeL p) a (k + 1) = q1 at *
                        generalize nowK (edgeL p) a k = q at *
                        have HN3 := Lib.hid hN3; clear hN3
                        have HB3 := Lib.hid hB3; clear hB3
                        have HEL := Lib.hid hel; clear hel
                        have HQQ := Lib.hid hqq; clear hqq
                        have HQL := Lib.hid hql; clear hql
                        have HQN := Lib.hid hqn; clear hqn
                        have HWK := Lib.hid hwk; clear hwk
                        have HNX := Lib.hid hnx; clear hnx
                        have HSET := Lib.hid hset; clear hset
                        have HE10 := Lib.hid hE10; clear hE10
                        go_wp2_with fail
                        go_loopw [21, 153] (fun v t wr => ∃ j : Nat, j ≤ el ∧ v = .int .u64 ((((edgeL p).take j).foldl (nxStep q) 0 : Nat) : Int) ∧ t = .int .i64 (j : Int) ∧ Below w9.heap.size w9 wr) (fun _ t _ => el - (intOf t).toNat)
                        case atStart => exact ⟨0, Nat.zero_le _, by simp, rfl, Below.refl _ _⟩
                        case round =>
                          obtain ⟨j, hj, rfl, rfl, hB4⟩ := hrel
                          obtain ⟨wi, rfl⟩ : ∃ wi : World, wi = wr := ⟨_, rfl⟩
                          by_cases hlt4 : j < el
                          · have hE11 := HE10.out.ext hB4
                            obtain ⟨x, hx, -⟩ := hE11.drop hlt4
                            obtain ⟨rb, ro, e1, _, f0, f1, -, -⟩ := hE11.pair hx
                            cases e1
                            obtain ⟨x1, x2⟩ := x
                            have hr := HER.out _ (List.mem_of_getElem? hx)
                            simp only at f0 f1 hr
                            obtain ⟨u, rfl⟩ : ∃ u : Nat, x1 = (u : Int) := ⟨x1.toNat, by omega⟩
                            obtain ⟨v, rfl⟩ : ∃ v : Nat, x2 = (v : Int) := ⟨x2.toNat, by omega⟩
                            have hup : ((edgeL p).take (j + 1)).foldl (nxStep q) 0 = nxStep q (((edgeL p).take j).foldl (nxStep q) 0) ((u : Int), (v : Int)) := by rw [take_snoc' hx, List.foldl_append]; rfl
                            have hacl : ((edgeL p).take j).foldl (nxStep q) 0 < 8192 := nx_low q _ 0 (fun e he => by have := HER.out e (List.mem_of_mem_take he); omega) (by omega)
                            generalize ((edgeL p).take j).foldl (nxStep q) 0 = ac at *
                            have hcq : wi.cell? ⟨wa.heap.size, a, none⟩ = some (.int .u64 (q : Int)) := by
                              rw [(HN3.out.bel hB4).cell, u64C_at (by rw [nowS_len]; omega), HQQ.out]
                            have z1 := and_one (b := u) HQL.out
                            have j0 : (0 : Int) ≤ (j : Int) := by omega
                            have j1 : (j : Int) < (el : Int) := by omega
                            have u0 : (0 : Int) ≤ (u : Int) := by omega
                            have u1 : (u : Int) < 13 := by omega
                            have v0 : (0 : Int) ≤ (v : Int) := by omega
                            have v1 : (v : Int) < 13 := by omega
                            have hor := or_val (v := v) hacl (by omega)
                            have hwp := wrap_pow (v := v) (by omega)
                            have hpc : ((2 ^ v : Nat) : Int) = (2 : Int) ^ v := by simp
                            rw [hpc] at hwp
                            have hB5 := bel_trans hB4 (bel_alloc wi (.cells #[.int .i64 (u : Int), .int .i64 (v : Int)] 51))
                            have hwi : wa.heap.size < wi.heap.size := (HN3.out.bel hB4).lt
                            clear hr
                            cases htb : q.testBit u with
                            | true =>
                              rw [htb] at z1
                              have hst : nxStep q ac ((u : Int), (v : Int)) = (ac ||| 2 ^ v) := if_pos htb
                              rw [hst] at hup
                              have HE11 := Lib.hid hE11; clear hE11
                              have HX := Lib.hid hx; clear hx
                              have HUP := Lib.hid hup; clear hup
                              have HACL := Lib.hid hacl; clear hacl
                              have HB4 := Lib.hid hB4; clear hB4
                              have HB5 := Lib.hid hB5; clear hB5
                              have HPC := Lib.hid hpc; clear hpc
                              have HTB := Lib.hid htb; clear htb
                              clear hst
                              go_wp2_with fail
                              go_quiet (fail)
                              go_wp2_with fail
                              go_roundw
                              case rel => exact ⟨j + 1, by omega, by rw [HUP.out], by go_num, below_drewN HB5.out _⟩
                              case measure => simp [intOf]; omega
                            | false =>
                              rw [htb] at z1
                              have hst : nxStep q ac ((u : Int), (v : Int)) = ac := if_neg (show ¬ (q.testBit u = true) by rw [htb]; decide)
                              rw [hst] at hup
                              have HE11 := Lib.hid hE11; clear hE11
                              have HX := Lib.hid hx; clear hx
                              have HUP := Lib.hid hup; clear hup
                              have HACL := Lib.hid hacl; clear hacl
                              have HB4 := Lib.hid hB4; clear hB4
                              have HB5 := Lib.hid hB5; clear hB5
                              have HPC := Lib.hid hpc; clear hpc
                              have HTB := Lib.hid htb; clear htb
                              clear hst hor hwp
                              go_wp2_with fail
                              go_quiet (fail)
                              go_wp2_with fail
                              go_roundw
                              case rel => exact ⟨j + 1, by omega, by rw [HUP.out], by go_num, below_drewN HB5.out _⟩
                              case measure => simp [intOf]; omega
                          · have hje : j = el := by omega
                            subst hje
                            have hjl := HEL.out
                            rw [List.take_of_length_le (by omega), ← HNX.out]
                            clear hjl
                            have hN4 := HN3.out.bel hB4
                            have hv0 : wi.cell? ⟨wa.heap.size, a, none⟩ = some (.int .u64 (q : Int)) := by
                              rw [hN4.cell, u64C_at (by rw [nowS_len]; omega), HQQ.out]
                            have hz0 := hN4.frozen a
                            have hn9 := hN4.set_ a (.int .u64 (q1 : Int))
                            rw [u64C_set, HSET.out] at hn9
                            have hb91 := Kept.below (bel_trans HB3.out hB4) ((Kept.refl [wa.heap.size] wi).set (p := ⟨wa.heap.size, a, none⟩) (.inl (by simp)) (.int .u64 (q1 : Int))) (bel_trans HB3.out hB4).size (by simp)
                            have z1 := and_one (b := a) HQN.out
                            rw [HWK.out] at z1
                            have j1 : ¬ (j : Int) < (j : Int) := by omega
                            have HB4 := Lib.hid hB4; clear hB4
                            have HN4 := Lib.hid hN4; clear hN4
                            have HN9 := Lib.hid hn9; clear hn9
                            have HB91 := Lib.hid hb91; clear hb91
                            go_wp2_with fail
                            go_roundw
                            case rel => exact ⟨a + 1, by omega, by omega, by go_num, HN9.out, HB91.out⟩
                            case measure => simp [intOf]; omega
                      · have hae : a = N + 1 := by omega
                        subst hae
                        rw [nowS_end] at hN3
                        have a1 : ¬ (N : Int) + 1 ≤ (N : Int) := by omega
                        have HN3 := Lib.hid hN3; clear hN3
                        have HB3 := Lib.hid hB3; clear hB3
                        go_wp2_with fail
                        go_roundw
                        case rel => exact ⟨k + 1, by omega, by go_num, HN3.out, HB3.out⟩
                        case measure => simp [intOf]; omega
                  · have k1 : ¬ (k : Int) + 1 < (cl : Int) := by omega
                    have hb12 := bel_trans HB9.out hB2
                    have HN2 := Lib.hid hN2; clear hN2
                    have HB2 := Lib.hid hB2; clear hB2
                    have HB12 := Lib.hid hb12; clear hb12
                    go_wp2_with fail
                    go_fit (CA.out _); rintro e wz ⟨rfl, hbz⟩
                    have HB11 := Lib.hid (bel_trans HB12.out hbz)
                    clear hbz
                    go_wp2_with fail
                    go_ret
                    exact ⟨rfl, HB11.out⟩
end Go.Proofs.Ytbfbkpoakmnlpaa

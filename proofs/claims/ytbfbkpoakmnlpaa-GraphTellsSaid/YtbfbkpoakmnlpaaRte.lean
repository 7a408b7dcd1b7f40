/- Contracts of the reference: Edge, Paths, Together. -/
import Derived.Test.YtbfbkpoakmnlpaaWrs
import Derived.Test.YtbfbkpoakmnlpaaG1
import Derived.Deep.QuietTactic
import Derived.BigQuiet
namespace Go.Proofs.Ytbfbkpoakmnlpaa
open Go.RowKit

set_option maxRecDepth 100000 in
set_option maxHeartbeats 4000000 in
theorem refEdge_any (p : GProg) (nA : Option Addr) (nl nc : Nat) (sA : Option Addr) (sl sc : Nat) (rA : Option Addr) (rl rc : Nat) (mA : Option Addr) (ml mc : Nat) (a b : Int) (w : World) (hp : ProgIn w p nA nl nc sA sl sc rA rl rc mA ml mc) :
    Calls Try.prog 46 #[.agg #[.int .i64 p.n, .slice nA nl nc, .slice sA sl sc, .slice rA rl rc, .slice mA ml mc], .int .i64 a, .int .i64 b] w fun e w' => e = .returned (.bool (edB p a b)) ∧ Below w.heap.size w w' := by
  have hx1 := Blk.new w 27 #[.int .i64 p.n, .slice nA nl nc, .slice sA sl sc, .slice rA rl rc, .slice mA ml mc]
  have hb1 := bel_alloc w (.cells #[.int .i64 p.n, .slice nA nl nc, .slice sA sl sc, .slice rA rl rc, .slice mA ml mc] 27)
  have hrc := hp.rules.cap
  have hrm := hp.rules.max
  have hrl := hp.rules.len
  have HP := Lib.hid hp; clear hp
  have HX1 := Lib.hid hx1; clear hx1
  have HB1 := Lib.hid hb1; clear hb1
  have HRL := Lib.hid hrl; clear hrl
  go_enter Try.func46, Try.ntmps46
  go_wp2_with fail
  generalize w.alloc (.cells #[.int .i64 p.n, .slice nA nl nc, .slice sA sl sc, .slice rA rl rc, .slice mA ml mc] 27) = w1 at *
  have m3 : w1.cell? ⟨w.heap.size, 3, none⟩ = some (.slice rA rl rc) := HX1.out.cell 3
  go_loopw [7] (fun t wr => ∃ i : Nat, i ≤ rl ∧ t = .int .i64 (i : Int) ∧ wr = w1 ∧ ((p.rules.take i).any fun r => decide (a ∈ r.head) && decide (b ∈ r.body)) = false) (fun t _ => rl - (intOf t).toNat)
  case atStart => exact ⟨0, Nat.zero_le _, rfl, rfl, by simp⟩
  case round =>
    obtain ⟨i, hi, rfl, rfl, hn⟩ := hrel
    obtain ⟨w1, rfl⟩ : ∃ w1 : World, w1 = wr := ⟨_, rfl⟩
    by_cases hlt : i < rl
    · have hp1 := HP.out.ext HB1.out
      obtain ⟨x, hx, -⟩ := hp1.rules.drop hlt
      obtain ⟨rb, ro, hA, hl, hc, bA, bl, bc, wA, wl, wc, rfl, hrb, e0, e1, e2, e3, e4, e5, i1, i2, i3, i4⟩ := hp1.rules.rule hx
      have i0 : (0 : Int) ≤ (i : Int) := by omega
      have k1 : (i : Int) < (rl : Int) := by omega
      have cH := refIn_any hA hl hc x.head a w1 i1
      have cB := refIn_any bA bl bc x.body b w1 i3
      have hnx : ((p.rules.take (i + 1)).any fun r => decide (a ∈ r.head) && decide (b ∈ r.body)) = (decide (a ∈ x.head) && decide (b ∈ x.body)) := by
        rw [take_snoc' hx, List.any_append, hn]; simp
      have hed : (decide (a ∈ x.head) && decide (b ∈ x.body)) = true → edB p a b = true := fun h => List.any_eq_true.2 ⟨x, List.mem_of_getElem? hx, h⟩
      generalize decide (a ∈ x.head) = c1 at *
      generalize decide (b ∈ x.body) = c2 at *
      clear hn e0 e2 e3 e5
      have HP1 := Lib.hid hp1; clear hp1
      have HX := Lib.hid hx; clear hx
      have I1 := Lib.hid i1; clear i1
      have I2 := Lib.hid i2; clear i2
      have I3 := Lib.hid i3; clear i3
      have I4 := Lib.hid i4; clear i4
      have CH := Lib.hid cH; clear cH
      have CB := Lib.hid cB; clear cB
      have HNX := Lib.hid hnx; clear hnx
      have HED := Lib.hid hed; clear hed
      go_wp2_with fail
      go_fit CH.out; rintro e w2 ⟨rfl, rfl⟩
      cases c1 with
      | false =>
        go_wp2_with fail
        go_roundw
        case rel => exact ⟨i + 1, by omega, by go_num, trivial, by rw [HNX.out]; rfl⟩
        case measure => simp [intOf]; omega
      | true =>
        go_wp2_with fail
        go_fit CB.out; rintro e w2 ⟨rfl, rfl⟩
        cases c2 with
        | false =>
          go_wp2_with fail
          go_roundw
          case rel => exact ⟨i + 1, by omega, by go_num, trivial, by rw [HNX.out]; rfl⟩
          case measure => simp [intOf]; omega
        | true =>
          have he := HED.out rfl
          go_wp2_with fail
          go_ret
          exact ⟨ret_bool he.symm, HB1.out⟩
    · have hie : rl = i := by omega
      subst hie
      rw [List.take_of_length_le (by have := HRL.out; omega)] at hn
      have he : edB p a b = false := hn
      clear hn
      have HE := Lib.hid he; clear he
      have k1 : ¬ (rl : Int) < (rl : Int) := by omega
      go_wp2_with fail
      go_ret
      exact ⟨ret_bool HE.out.symm, HB1.out⟩
set_option maxRecDepth 100000 in
set_option maxHeartbeats 4000000 in
theorem refPaths_any (p : GProg) (nA : Option Addr) (nl nc : Nat) (sA : Option Addr) (sl sc : Nat) (rA : Option Addr) (rl rc : Nat) (mA : Option Addr) (ml mc : Nat) (w : World) (hp : ProgIn w p nA nl nc sA sl sc rA rl rc mA ml mc) (h0 : 0 ≤ p.n) (h12 : p.n ≤ 12) :
    Calls Try.prog 44 #[.agg #[.int .i64 p.n, .slice nA nl nc, .slice sA sl sc, .slice rA rl rc, .slice mA ml mc]] w fun e w' => ∃ ub, e = .returned (.slice (some ⟨ub, 0, none⟩) (p.n.toNat * p.n.toNat) (p.n.toNat * p.n.toNat)) ∧ Blk w' ub 3 (intC (mat p.n.toNat (ptB p))) ∧ w.heap.size ≤ ub ∧ Below w.heap.size w w' := by
  have hpt : mat p.n.toNat (ptB p) = mat p.n.toNat (tB (edN p) p.n.toNat) := rfl
  obtain ⟨N, hN⟩ : ∃ N : Nat, N = p.n.toNat := ⟨_, rfl⟩
  rw [← hN] at hpt
  rw [← hN, hpt]
  have hNn : p.n = (N : Int) := by omega
  obtain ⟨M, hM⟩ : ∃ M : Nat, M = N * N := ⟨_, rfl⟩
  have hN12 : N ≤ 12 := by omega
  have hM144 : M ≤ 144 := by rw [hM]; exact Nat.mul_le_mul hN12 hN12
  have hNN : (N : Int) * (N : Int) = (M : Int) := by rw [hM]; simp
  rw [← hM]
  have hmk : ∀ W : World, (Instr.makeSlice 23 (.int .i64 (M : Int)) (.int .i64 (M : Int))).run Try.prog W = .ok (.slice (some ⟨W.heap.size, 0, none⟩) M M) (W.alloc (.cells (intC (mat N (mF0 (edN p) 0 0))) 3)) := fun W => by
    have h := run_make_row' (P := Try.prog) 23 3 (.int .i64 0) 8 Try.underlying23 info_int rfl .i64 .i64 M (by omega) (by omega) W
    have e : madeCells #[Value.int .i64 0] M = intC (mat N (mF0 (edN p) 0 0)) := by
      unfold madeCells intC mat mF0
      rw [← hM]
      apply Array.ext
      · simp
      · intro i h1 h2
        simp [Nat.mod_one]
    rw [e] at h
    exact h
  have cE := fun (a b : Int) W (hb : Below w.heap.size w W) => refEdge_any p nA nl nc sA sl sc rA rl rc mA ml mc a b W (hp.ext hb)
  have hx1 := Blk.new w 27 #[.int .i64 p.n, .slice nA nl nc, .slice sA sl sc, .slice rA rl rc, .slice mA ml mc]
  have hb1 := bel_alloc w (.cells #[.int .i64 p.n, .slice nA nl nc, .slice sA sl sc, .slice rA rl rc, .slice mA ml mc] 27)
  rw [hNn] at cE hx1 hb1
  rw [hNn]
  have hE : edN p = edN p := rfl
  obtain ⟨E, hEe⟩ : ∃ E, E = edN p := ⟨_, rfl⟩
  rw [← hEe] at hmk
  rw [← hEe]
  clear hpt hE
  have hbp := hb1
  have HP := Lib.hid hp; clear hp
  have HM := Lib.hid hM; clear hM
  have HN := Lib.hid hN; clear hN
  have CE := Lib.hid cE; clear cE
  have HX1 := Lib.hid hx1; clear hx1
  have HB1 := Lib.hid hb1; clear hb1
  have HEE := Lib.hid hEe; clear hEe
  have HBP := Lib.hid hbp; clear hbp
  go_enter Try.func44, Try.ntmps44
  go_wp2_with fail
  have hs1 : (w.alloc (.cells #[.int .i64 (N : Int), .slice nA nl nc, .slice sA sl sc, .slice rA rl rc, .slice mA ml mc] 27)).heap.size = w.heap.size + 1 := by simp
  generalize w.alloc (.cells #[.int .i64 (N : Int), .slice nA nl nc, .slice sA sl sc, .slice rA rl rc, .slice mA ml mc] 27) = w1 at *
  have hw1 : w.heap.size < w1.heap.size := HX1.out.lt
  obtain ⟨ub, hub⟩ : ∃ ub, ub = w.heap.size + 1 := ⟨_, rfl⟩
  have hu0 : Blk (w1.alloc (.cells (intC (mat N (mF0 E 0 0))) 3)) ub 3 (intC (mat N (mF0 E 0 0))) := blk_new (by omega) _ _
  have hb0 := bel_alloc w1 (.cells (intC (mat N (mF0 E 0 0))) 3)
  rw [← hub]
  have hubw : w.heap.size < ub := by omega
  have hubs : w1.heap.size = ub := by omega
  clear hmk
  generalize w1.alloc (.cells (intC (mat N (mF0 E 0 0))) 3) = w2 at *
  have HU0 := Lib.hid hu0; clear hu0
  have HB0 := Lib.hid hb0; clear hb0
  have HUB := Lib.hid hub; clear hub
  have HS1 := Lib.hid hs1; clear hs1
  have HUBS := Lib.hid hubs; clear hubs
  go_loopw [5] (fun t wr => ∃ a : Nat, a ≤ N ∧ t = .int .i64 (a : Int) ∧ Blk wr ub 3 (intC (mat N (mF0 E a 0))) ∧ Below w1.heap.size w1 wr) (fun t _ => N - (intOf t).toNat)
  case atStart => exact ⟨0, Nat.zero_le _, rfl, HU0.out, HB0.out⟩
  case round =>
    obtain ⟨a, ha, rfl, hU, hB⟩ := hrel
    obtain ⟨wa, rfl⟩ : ∃ wa : World, wa = wr := ⟨_, rfl⟩
    have a0 : (0 : Int) ≤ (a : Int) := by omega
    by_cases hlt : a < N
    · have a1 : (a : Int) < (N : Int) := by omega
      have HU := Lib.hid hU; clear hU
      have HB := Lib.hid hB; clear hB
      go_wp2_with fail
      go_loopw [6] (fun t wr => ∃ b : Nat, b ≤ N ∧ t = .int .i64 (b : Int) ∧ Blk wr ub 3 (intC (mat N (mF0 E a b))) ∧ Below w1.heap.size w1 wr) (fun t _ => N - (intOf t).toNat)
      case atStart => exact ⟨0, Nat.zero_le _, rfl, HU.out, HB.out⟩
      case round =>
        obtain ⟨b, hb, rfl, hU2, hB2⟩ := hrel
        obtain ⟨wb, rfl⟩ : ∃ wb : World, wb = wr := ⟨_, rfl⟩
        have b0 : (0 : Int) ≤ (b : Int) := by omega
        by_cases hlt2 : b < N
        · have b1 : (b : Int) < (N : Int) := by omega
          have hxb := HX1.out.bel hB2
          have hbw := bel_trans HB1.out hB2
          have cEd := CE.out ((a : Int) + 1) ((b : Int) + 1) wb hbw
          rw [show edB p ((a : Int) + 1) ((b : Int) + 1) = E a b from by rw [HEE.out]; rfl] at cEd
          have hnx := mF0_next E a b hlt2
          obtain ⟨an, han⟩ : ∃ an, an = a * N := ⟨_, rfl⟩
          have han2 : (a : Int) * (N : Int) = (an : Int) := by rw [han]; simp
          have hix := ix_lt hlt hlt2
          rw [← han] at hix hnx
          have hix2 : an + b < M := by have := HM.out; omega
          obtain ⟨ix, hixe⟩ : ∃ ix, ix = an + b := ⟨_, rfl⟩
          have hix3 : (an : Int) + (b : Int) = (ix : Int) := by omega
          rw [← hixe] at hnx hix2
          have n0 : (0 : Int) ≤ (an : Int) := by omega
          have n1 : (an : Int) < 144 := by omega
          have x0 : (0 : Int) ≤ (ix : Int) := by omega
          have x1 : (ix : Int) < (M : Int) := by omega
          generalize E a b = ed at *
          clear hixe han hix
          obtain ⟨p0, p1, p2, p3, p4, p5⟩ := pcells hxb
          have HXB := Lib.hid hxb; clear hxb
          have HBW := Lib.hid hbw; clear hbw
          have HU2 := Lib.hid hU2; clear hU2
          have HB2 := Lib.hid hB2; clear hB2
          have CED := Lib.hid cEd; clear cEd
          have HNX := Lib.hid hnx; clear hnx
          go_wp2_with fail
          go_fit CED.out; rintro e wc ⟨rfl, hb⟩
          have hU3 := HU2.out.bel hb
          have hB3 := bel_trans HB2.out hb
          clear hb
          clear p0 p1 p2 p3 p4 p5
          cases ed with
          | false =>
            rw [HNX.out.1 rfl] at hU3
            have HU3 := Lib.hid hU3; clear hU3
            have HB3 := Lib.hid hB3; clear hB3
            go_wp2_with fail
            go_roundw
            case rel => exact ⟨b + 1, by omega, by go_num, HU3.out, HB3.out⟩
            case measure => simp [intOf]; omega
          | true =>
            have hm : wc.cell? ⟨ub, ix, none⟩ = some (((mat N (mF0 E a b)).map (Value.int .i64)).getD ix undef) := by
              rw [hU3.cell]; unfold intC
              have hl : ix < ((mat N (mF0 E a b)).map (Value.int .i64)).length := by rw [List.length_map, mat_len]; have := HM.out; omega
              rw [List.getElem?_toArray, List.getD_eq_getElem?_getD, List.getElem?_eq_getElem hl]; rfl
            obtain ⟨v0, hv0⟩ : ∃ v0, wc.cell? ⟨ub, ix, none⟩ = some v0 := ⟨_, hm⟩
            clear hm
            have hz0 := hU3.frozen ix
            have hn9 := hU3.set_ ix (.int .i64 1)
            rw [intC_set, HNX.out.2 rfl] at hn9
            have hb9 := Kept.below hB3 ((Kept.refl [ub] wc).set (p := ⟨ub, ix, none⟩) (.inl (by simp)) (.int .i64 1)) hB3.size (by simp; have := HUBS.out; omega)
            have HU3 := Lib.hid hU3; clear hU3
            have HB3 := Lib.hid hB3; clear hB3
            have HN9 := Lib.hid hn9; clear hn9
            have HB9 := Lib.hid hb9; clear hb9
            go_wp2_with fail
            go_roundw
            case rel => exact ⟨b + 1, by omega, by go_num, HN9.out, HB9.out⟩
            case measure => simp [intOf]; omega
        · have hbe : N = b := by omega
          subst hbe
          rw [mF0_row] at hU2
          have b1 : ¬ (N : Int) < (N : Int) := by omega
          have HU2 := Lib.hid hU2; clear hU2
          have HB2 := Lib.hid hB2; clear hB2
          go_wp2_with fail
          go_roundw
          case rel => exact ⟨a + 1, by omega, by go_num, HU2.out, HB2.out⟩
          case measure => simp [intOf]; omega
    · have hae : N = a := by omega
      subst hae
      rw [mF0_end] at hU
      have a1 : ¬ (N : Int) < (N : Int) := by omega
      have HU := Lib.hid hU; clear hU
      have HB := Lib.hid hB; clear hB
      go_wp2_with fail
      clear a1
      go_loopw [7] (fun t wr => ∃ k : Nat, k ≤ N ∧ t = .int .i64 (k : Int) ∧ Blk wr ub 3 (intC (mat N (mFk E k 0 0))) ∧ Below w1.heap.size w1 wr) (fun t _ => N - (intOf t).toNat)
      case atStart => exact ⟨0, Nat.zero_le _, rfl, HU.out, HB.out⟩
      case round =>
        obtain ⟨k, hk, rfl, hU1, hB1⟩ := hrel
        obtain ⟨wa, rfl⟩ : ∃ wa : World, wa = wr := ⟨_, rfl⟩
        have k0 : (0 : Int) ≤ (k : Int) := by omega
        by_cases hltk : k < N
        · have k1 : (k : Int) < (N : Int) := by omega
          have HU1 := Lib.hid hU1; clear hU1
          have HB1 := Lib.hid hB1; clear hB1
          go_wp2_with fail
          go_loopw [8] (fun t wr => ∃ a : Nat, a ≤ N ∧ t = .int .i64 (a : Int) ∧ Blk wr ub 3 (intC (mat N (mFk E k a 0))) ∧ Below w1.heap.size w1 wr) (fun t _ => N - (intOf t).toNat)
          case atStart => exact ⟨0, Nat.zero_le _, rfl, HU1.out, HB1.out⟩
          case round =>
            obtain ⟨a, ha, rfl, hU2, hB2⟩ := hrel
            obtain ⟨wb, rfl⟩ : ∃ wb : World, wb = wr := ⟨_, rfl⟩
            have a0 : (0 : Int) ≤ (a : Int) := by omega
            by_cases hlta : a < N
            · have a1 : (a : Int) < (N : Int) := by omega
              have HU2 := Lib.hid hU2; clear hU2
              have HB2 := Lib.hid hB2; clear hB2
              go_wp2_with fail
              go_loopw [9] (fun t wr => ∃ b : Nat, b ≤ N ∧ t = .int .i64 (b : Int) ∧ Blk wr ub 3 (intC (mat N (mFk E k a b))) ∧ Below w1.heap.size w1 wr) (fun t _ => N - (intOf t).toNat)
              case atStart => exact ⟨0, Nat.zero_le _, rfl, HU2.out, HB2.out⟩
              case round =>
                obtain ⟨b, hb, rfl, hU3, hB3⟩ := hrel
                obtain ⟨wc, rfl⟩ : ∃ wc : World, wc = wr := ⟨_, rfl⟩
                have b0 : (0 : Int) ≤ (b : Int) := by omega
                by_cases hltb : b < N
                · have b1 : (b : Int) < (N : Int) := by omega
                  have hnx := mFk_next E k a b hltb
                  have q1 : wc.cell? ⟨ub, a * N + k, none⟩ = some (.int .i64 (if tB E k a k then 1 else 0)) := by
                    rw [hU3.cell, intC_get, mat_at hlta hltk, mFk_col]; rfl
                  have q2 : wc.cell? ⟨ub, k * N + b, none⟩ = some (.int .i64 (if tB E k k b then 1 else 0)) := by
                    rw [hU3.cell, intC_get, mat_at hltk hltb, mFk_row]; rfl
                  have l1 := ix_lt hlta hltk
                  have l2 := ix_lt hltk hltb
                  have l3 := ix_lt hlta hltb
                  rw [← HM.out] at l1 l2 l3
                  obtain ⟨an, han⟩ : ∃ an, an = a * N := ⟨_, rfl⟩
                  obtain ⟨kn, hkn⟩ : ∃ kn, kn = k * N := ⟨_, rfl⟩
                  have han2 : (a : Int) * (N : Int) = (an : Int) := by rw [han]; simp
                  have hkn2 : (k : Int) * (N : Int) = (kn : Int) := by rw [hkn]; simp
                  rw [← han] at q1 l1 l3 hnx
                  rw [← hkn] at q2 l2
                  obtain ⟨i1, e1⟩ : ∃ i1, i1 = an + k := ⟨_, rfl⟩
                  obtain ⟨i2, e2⟩ : ∃ i2, i2 = kn + b := ⟨_, rfl⟩
                  obtain ⟨i3, e3⟩ : ∃ i3, i3 = an + b := ⟨_, rfl⟩
                  have e1' : (an : Int) + (k : Int) = (i1 : Int) := by omega
                  have e2' : (kn : Int) + (b : Int) = (i2 : Int) := by omega
                  have e3' : (an : Int) + (b : Int) = (i3 : Int) := by omega
                  rw [← e1] at q1 l1
                  rw [← e2] at q2 l2
                  rw [← e3] at l3 hnx
                  have n0 : (0 : Int) ≤ (an : Int) := by omega
                  have n1 : (an : Int) < 144 := by omega
                  have n2 : (0 : Int) ≤ (kn : Int) := by omega
                  have n3 : (kn : Int) < 144 := by omega
                  have x0 : (0 : Int) ≤ (i1 : Int) := by omega
                  have x1 : (i1 : Int) < (M : Int) := by omega
                  have x2 : (0 : Int) ≤ (i2 : Int) := by omega
                  have x3 : (i2 : Int) < (M : Int) := by omega
                  have x4 : (0 : Int) ≤ (i3 : Int) := by omega
                  have x5 : (i3 : Int) < (M : Int) := by omega
                  generalize tB E k a k = c1 at *
                  generalize tB E k k b = c2 at *
                  clear han hkn e1 e2 e3 l1 l2
                  have HNX := Lib.hid hnx; clear hnx
                  cases c1 with
                  | false =>
                    cases c2 with
                    | false =>
                      simp only [Bool.false_eq_true, if_false] at q1 q2
                      rw [HNX.out.1 rfl] at hU3
                      have HU3 := Lib.hid hU3; clear hU3
                      have HB3 := Lib.hid hB3; clear hB3
                      go_wp2_with fail
                      go_quiet (fail)
                      go_wp2_with fail
                      go_roundw
                      case rel => exact ⟨b + 1, by omega, by go_num, HU3.out, below_drewN HB3.out _⟩
                      case measure => simp [intOf]; omega
                    | true =>
                      simp only [Bool.false_eq_true, if_false, if_true] at q1 q2
                      rw [HNX.out.1 rfl] at hU3
                      have HU3 := Lib.hid hU3; clear hU3
                      have HB3 := Lib.hid hB3; clear hB3
                      go_wp2_with fail
                      go_quiet (fail)
                      go_wp2_with fail
                      go_roundw
                      case rel => exact ⟨b + 1, by omega, by go_num, HU3.out, below_drewN HB3.out _⟩
                      case measure => simp [intOf]; omega
                  | true =>
                    cases c2 with
                    | false =>
                      simp only [Bool.false_eq_true, if_false, if_true] at q1 q2
                      rw [HNX.out.1 rfl] at hU3
                      have HU3 := Lib.hid hU3; clear hU3
                      have HB3 := Lib.hid hB3; clear hB3
                      go_wp2_with fail
                      go_quiet (fail)
                      go_wp2_with fail
                      go_roundw
                      case rel => exact ⟨b + 1, by omega, by go_num, HU3.out, below_drewN HB3.out _⟩
                      case measure => simp [intOf]; omega
                    | true =>
                      simp only [if_true] at q1 q2
                      have HU3 := Lib.hid hU3; clear hU3
                      have HB3 := Lib.hid hB3; clear hB3
                      go_wp2_with fail
                      go_quiet (fail)
                      have hU4 := HU3.out.bel (below_drewN (Below.refl wc.heap.size wc) nq)
                      have hB4 := below_drewN HB3.out nq
                      clear q1 q2
                      generalize wc.drewN nq = wd at *
                      have hm : wd.cell? ⟨ub, i3, none⟩ = some (((mat N (mFk E k a b)).map (Value.int .i64)).getD i3 undef) := by
                        rw [hU4.cell]; unfold intC
                        have hl : i3 < ((mat N (mFk E k a b)).map (Value.int .i64)).length := by rw [List.length_map, mat_len]; have := HM.out; omega
                        rw [List.getElem?_toArray, List.getD_eq_getElem?_getD, List.getElem?_eq_getElem hl]; rfl
                      obtain ⟨v0, hv0⟩ : ∃ v0, wd.cell? ⟨ub, i3, none⟩ = some v0 := ⟨_, hm⟩
                      clear hm
                      have hz0 := hU4.frozen i3
                      have hn9 := hU4.set_ i3 (.int .i64 1)
                      rw [intC_set, HNX.out.2 rfl] at hn9
                      have hb9 := Kept.below hB4 ((Kept.refl [ub] wd).set (p := ⟨ub, i3, none⟩) (.inl (by simp)) (.int .i64 1)) hB4.size (by simp; have := HUBS.out; omega)
                      have HU4 := Lib.hid hU4; clear hU4
                      have HB4 := Lib.hid hB4; clear hB4
                      have HN9 := Lib.hid hn9; clear hn9
                      have HB9 := Lib.hid hb9; clear hb9
                      go_wp2_with fail
                      go_roundw
                      case rel => exact ⟨b + 1, by omega, by go_num, HN9.out, HB9.out⟩
                      case measure => simp [intOf]; omega
                · have hbe : N = b := by omega
                  subst hbe
                  rw [mFk_rowE] at hU3
                  have b1 : ¬ (N : Int) < (N : Int) := by omega
                  have HU3 := Lib.hid hU3; clear hU3
                  have HB3 := Lib.hid hB3; clear hB3
                  go_wp2_with fail
                  go_roundw
                  case rel => exact ⟨a + 1, by omega, by go_num, HU3.out, HB3.out⟩
                  case measure => simp [intOf]; omega
            · have hae : N = a := by omega
              subst hae
              rw [mFk_end] at hU2
              have a1 : ¬ (N : Int) < (N : Int) := by omega
              have HU2 := Lib.hid hU2; clear hU2
              have HB2 := Lib.hid hB2; clear hB2
              go_wp2_with fail
              go_roundw
              case rel => exact ⟨k + 1, by omega, by go_num, HU2.out, HB2.out⟩
              case measure => simp [intOf]; omega
        · have hke : N = k := by omega
          subst hke
          rw [mFk_done] at hU1
          have k1 : ¬ (N : Int) < (N : Int) := by omega
          have hbz := bel_trans HBP.out hB1
          have HU1 := Lib.hid hU1; clear hU1
          have HB1 := Lib.hid hB1; clear hB1
          have HBZ := Lib.hid hbz; clear hbz
          go_wp2_with fail
          go_ret
          exact ⟨_, rfl, HU1.out, by omega, HBZ.out⟩
set_option maxRecDepth 100000 in
set_option maxHeartbeats 4000000 in
theorem refTog_any (p : GProg) (nA : Option Addr) (nl nc : Nat) (sA : Option Addr) (sl sc : Nat) (rA : Option Addr) (rl rc : Nat) (mA : Option Addr) (ml mc : Nat) (ub : Nat) (x y N : Nat) (w : World) (hN : p.n = (N : Int)) (h12 : N ≤ 12) (hx : x < N) (hy : y < N) (hu : Blk w ub 3 (intC (mat N (ptB p)))) :
    Calls Try.prog 45 #[.agg #[.int .i64 p.n, .slice nA nl nc, .slice sA sl sc, .slice rA rl rc, .slice mA ml mc], .slice (some ⟨ub, 0, none⟩) (N * N) (N * N), .int .i64 ((x : Int) + 1), .int .i64 ((y : Int) + 1)] w fun e w' => e = .returned (.bool (tgB p x y)) ∧ Below w.heap.size w w' := by
  have hx1 := Blk.new w 27 #[.int .i64 p.n, .slice nA nl nc, .slice sA sl sc, .slice rA rl rc, .slice mA ml mc]
  have hb1 := bel_alloc w (.cells #[.int .i64 p.n, .slice nA nl nc, .slice sA sl sc, .slice rA rl rc, .slice mA ml mc] 27)
  have hu1 := hu.alloc (.cells #[.int .i64 p.n, .slice nA nl nc, .slice sA sl sc, .slice rA rl rc, .slice mA ml mc] 27)
  rw [hN] at hx1 hb1 hu1
  rw [hN]
  obtain ⟨M, hM⟩ : ∃ M : Nat, M = N * N := ⟨_, rfl⟩
  have hM144 : M ≤ 144 := by rw [hM]; exact Nat.mul_le_mul h12 h12
  rw [← hM]
  have l1 := ix_lt hx hy
  have l2 := ix_lt hy hx
  rw [← hM] at l1 l2
  obtain ⟨xn, hxn⟩ : ∃ xn, xn = x * N := ⟨_, rfl⟩
  obtain ⟨yn, hyn⟩ : ∃ yn, yn = y * N := ⟨_, rfl⟩
  have han2 : (x : Int) * (N : Int) = (xn : Int) := by rw [hxn]; simp
  have hkn2 : (y : Int) * (N : Int) = (yn : Int) := by rw [hyn]; simp
  have ht : tgB p x y = (decide (x = y) || (ptB p x y && ptB p y x)) := rfl
  have HU := Lib.hid hu; clear hu
  have HM := Lib.hid hM; clear hM
  have HB1 := Lib.hid hb1; clear hb1
  have HN := Lib.hid hN; clear hN
  go_enter Try.func45, Try.ntmps45
  go_wp2_with fail
  generalize w.alloc (.cells #[.int .i64 (N : Int), .slice nA nl nc, .slice sA sl sc, .slice rA rl rc, .slice mA ml mc] 27) = w1 at *
  have q1 : w1.cell? ⟨ub, x * N + y, none⟩ = some (.int .i64 (if ptB p x y then 1 else 0)) := by
    rw [hu1.cell, intC_get, mat_at hx hy]; rfl
  have q2 : w1.cell? ⟨ub, y * N + x, none⟩ = some (.int .i64 (if ptB p y x then 1 else 0)) := by
    rw [hu1.cell, intC_get, mat_at hy hx]; rfl
  rw [← hxn] at q1 l1
  rw [← hyn] at q2 l2
  obtain ⟨i1, e1⟩ : ∃ i1, i1 = xn + y := ⟨_, rfl⟩
  obtain ⟨i2, e2⟩ : ∃ i2, i2 = yn + x := ⟨_, rfl⟩
  have e1' : (xn : Int) + ((y : Int) + 1) = (i1 : Int) + 1 := by omega
  have e2' : (yn : Int) + ((x : Int) + 1) = (i2 : Int) + 1 := by omega
  rw [← e1] at q1 l1
  rw [← e2] at q2 l2
  have z1 : (x : Int) + 1 - 1 = (x : Int) := by omega
  have z2 : (y : Int) + 1 - 1 = (y : Int) := by omega
  have z3 : (i1 : Int) + 1 - 1 = (i1 : Int) := by omega
  have z4 : (i2 : Int) + 1 - 1 = (i2 : Int) := by omega
  have m0 : w1.cell? ⟨w.heap.size, 0, none⟩ = some (.int .i64 (N : Int)) := hx1.cell 0
  have n0 : (0 : Int) ≤ (xn : Int) := by omega
  have n1 : (xn : Int) < 144 := by omega
  have n2 : (0 : Int) ≤ (yn : Int) := by omega
  have n3 : (yn : Int) < 144 := by omega
  have a0 : (0 : Int) ≤ (x : Int) := by omega
  have a1 : (x : Int) < 12 := by omega
  have a2 : (0 : Int) ≤ (y : Int) := by omega
  have a3 : (y : Int) < 12 := by omega
  have x0 : (0 : Int) ≤ (i1 : Int) := by omega
  have x1 : (i1 : Int) < (M : Int) := by omega
  have x2 : (0 : Int) ≤ (i2 : Int) := by omega
  have x3 : (i2 : Int) < (M : Int) := by omega
  clear hxn hyn e1 e2 l1 l2
  have HX1 := Lib.hid hx1; clear hx1
  have HU1 := Lib.hid hu1; clear hu1
  by_cases hxy : x = y
  · subst hxy
    have ht2 : tgB p x x = true := by rw [ht]; simp
    clear ht
    have HT2 := Lib.hid ht2; clear ht2
    go_wp2_with fail
    go_quiet (fail)
    go_wp2_with fail
    go_ret
    exact ⟨ret_bool HT2.out.symm, below_drewN HB1.out _⟩
  · have hne : ((x : Int) + 1 == (y : Int) + 1) = false := by simp; omega
    have hne2 : ((x : Int) == (y : Int)) = false := by simp; omega
    have hne3 : (x == y) = false := by simpa using hxy
    have ht2 : tgB p x y = (ptB p x y && ptB p y x) := by rw [ht]; simp [hxy]
    clear ht
    generalize ptB p x y = c1 at *
    generalize ptB p y x = c2 at *
    have HT2 := Lib.hid ht2; clear ht2
    cases c1 <;> cases c2 <;> (simp only [Bool.false_eq_true, if_false, if_true] at q1 q2; go_wp2_with fail; go_quiet (fail); go_wp2_with fail; go_ret; exact ⟨ret_bool (by rw [HT2.out]; rfl), below_drewN HB1.out _⟩)
end Go.Proofs.Ytbfbkpoakmnlpaa

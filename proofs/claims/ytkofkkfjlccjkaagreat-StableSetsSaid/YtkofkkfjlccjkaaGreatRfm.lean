/- Contracts of the reference: Subset, power, Minimal. -/
import Derived.Test.YtkofkkfjlccjkaaGreatRsa
import Derived.Test.YtkofkkfjlccjkaaGreatOcc
namespace Go.Proofs.YtkofkkfjlccjkaaGreat
open Go.RowKit

theorem pickL_cons (a : Int) (t : List Int) (b : Nat) : pickL (a :: t) b = if b % 2 = 1 then a :: pickL t (b / 2) else pickL t (b / 2) := rfl
set_option maxRecDepth 100000 in
set_option maxHeartbeats 2000000 in
theorem refSubset_any (mA : Option Addr) (ml mc : Nat) (ms : List Int) (b : Nat) (w : World) (hm : SlIs intR w mA ml mc ms) (hb : b ≤ 4096) :
    Calls Tryz.prog 53 #[.slice mA ml mc, .int .i64 (b : Int)] w fun e w' => ∃ A l c, e = .returned (.slice A l c) ∧ SlIs intR w' A l c (pickL ms b) ∧ Below w.heap.size w w' := by
  have hmc := hm.cap
  have hmx := hm.max
  have hsm := hm.small
  have HM := Lib.hid hm; clear hm
  go_enter Tryz.func53, Tryz.ntmps53
  go_wp2_with fail
  go_loopw [1, 5, 6] (fun q v t wr => ∃ (k lv z : Nat) (ys : List Int), k ≤ ml ∧ t = .int .i64 (k : Int) ∧ q = .int .i64 (z : Int) ∧ z ≤ 4096 ∧ OwnI wr w.heap.size v lv ys ∧ lv ≤ k ∧ (∀ y ∈ ys, I64 y) ∧ Below w.heap.size w wr ∧ pickL ms b = ys ++ pickL (ms.drop k) z) (fun _ _ t _ => ml - (intOf t).toNat)
  case atStart => exact ⟨0, 0, b, [], Nat.zero_le _, rfl, rfl, hb, OwnI.nil _ _, Nat.le_refl _, by simp, Below.refl _ _, rfl⟩
  case round =>
    obtain ⟨k, lv, z, ys, hk, rfl, rfl, hz, ho, hlv, hys, hbw, hs⟩ := hrel
    have hsz := hbw.size
    by_cases hlt : k < ml
    · obtain ⟨x, hx, hd⟩ := HM.out.drop hlt
      obtain ⟨b1, o1, rfl, _, cx, hx64⟩ := (HM.out.ext hbw).int hx
      have k0 : (0 : Int) ≤ (k : Int) := by omega
      have k1 : (k : Int) < (ml : Int) := by omega
      have hzi : (0 : Int) ≤ (z : Int) := by omega
      have hzd : ((z / 2 : Nat) : Int) = (z : Int) / 2 := by omega
      rw [hd, pickL_cons] at hs
      by_cases h1 : z % 2 = 1
      · have e1 : ((z : Int) % 2 == 1) = true := by simp; omega
        rw [if_pos h1] at hs
        have hs' : pickL ms b = (ys ++ [x]) ++ pickL (ms.drop (k + 1)) (z / 2) := by rw [hs]; simp
        obtain ⟨v1, w3, hrun, own1, hg1, hat1⟩ := app1 ho x (by omega) hsz 23
        have hb3 := bel_grown hbw hg1 hsz (fun z hz => (ho.2.lt z hz).1)
        have HO := Lib.hid ho; clear ho
        have HBW := Lib.hid hbw; clear hbw
        have HYS := Lib.hid hys; clear hys
        have HX := Lib.hid hx; clear hx
        have HD := Lib.hid hd; clear hd
        have HS := Lib.hid hs; clear hs
        have HS' := Lib.hid hs'; clear hs'
        have HRUN := Lib.hid hrun; clear hrun
        have OWN1 := Lib.hid own1; clear own1
        have HG1 := Lib.hid hg1; clear hg1
        have HAT1 := Lib.hid hat1; clear hat1
        have HB3 := Lib.hid hb3; clear hb3
        have H1 := Lib.hid h1; clear h1
        have HX64 := Lib.hid hx64; clear hx64
        go_wp2_with (at_builtin; refine wpList_append_run rfl _ _ _ rfl _ _ rfl rfl _ _ HRUN.out ?_)
        go_roundw
        case rel => exact ⟨k + 1, _, z / 2, _, by omega, by go_num, by rw [hzd], by omega, OWN1.out, by omega, fun y h => by
          rcases List.mem_append.1 h with h | h
          · exact HYS.out y h
          · simp at h; subst h; exact HX64.out, HB3.out, HS'.out⟩
        case measure => simp [intOf]; omega
      · have e1 : ((z : Int) % 2 == 1) = false := by simp; omega
        rw [if_neg h1] at hs
        have HO := Lib.hid ho; clear ho
        have HBW := Lib.hid hbw; clear hbw
        have HYS := Lib.hid hys; clear hys
        have HX := Lib.hid hx; clear hx
        have HD := Lib.hid hd; clear hd
        have HS := Lib.hid hs; clear hs
        have H1 := Lib.hid h1; clear h1
        have HX64 := Lib.hid hx64; clear hx64
        go_wp2_with fail
        go_roundw
        case rel => exact ⟨k + 1, _, z / 2, _, by omega, by go_num, by rw [hzd], by omega, HO.out, by omega, HYS.out, HBW.out, HS.out⟩
        case measure => simp [intOf]; omega
    · rw [HM.out.stop (show ml ≤ k by omega)] at hs
      obtain ⟨vA, vc, hv, hsv⟩ := ho.sl (by omega) hys
      rw [show pickL [] z = [] from rfl, List.append_nil] at hs
      rw [← hs] at hsv
      subst hv
      have HO := Lib.hid ho; clear ho
      have HBW := Lib.hid hbw; clear hbw
      have HYS := Lib.hid hys; clear hys
      have HS := Lib.hid hs; clear hs
      have HSV := Lib.hid hsv; clear hsv
      go_wp2_with fail
      go_ret
      exact ⟨_, _, _, rfl, HSV.out, HBW.out⟩

set_option maxRecDepth 100000 in
set_option maxHeartbeats 1000000 in
theorem refPower_any (k N : Nat) (w : World) (hk : k ≤ 12) (hN : N = 2 ^ k) :
    Calls Tryz.prog 52 #[.int .i64 (k : Int)] w fun e w' => e = .returned (.int .i64 (N : Int)) ∧ w = w' := by
  have hpow : ∀ i : Nat, i ≤ 12 → 2 ^ i ≤ 4096 := fun i hi => Nat.le_trans (Nat.pow_le_pow_right (by omega) hi) (show 2 ^ 12 ≤ 4096 by decide)
  have HPOW := Lib.hid hpow; clear hpow
  have HN := Lib.hid hN; clear hN
  go_enter Tryz.func52, Tryz.ntmps52
  go_wp2_with fail
  go_loop [3, 4] (fun n t => ∃ (i z : Nat), i ≤ k ∧ t = .int .i64 (i : Int) ∧ n = .int .i64 (z : Int) ∧ z = 2 ^ i) (fun _ t => k - (intOf t).toNat)
  case atStart => exact ⟨0, 1, Nat.zero_le _, rfl, rfl, rfl⟩
  case round =>
    obtain ⟨i, z, hi, rfl, rfl, hz⟩ := hrel
    have hz2 := HPOW.out i (by omega)
    rw [← hz] at hz2
    by_cases hlt : i < k
    · have hz3 : 2 * z = 2 ^ (i + 1) := by rw [hz, Nat.pow_succ]; omega
      have HZ := Lib.hid hz; clear hz
      have HZ3 := Lib.hid hz3; clear hz3
      go_wp2_with fail
      go_round
      case rel => exact ⟨i + 1, 2 * z, by omega, by go_num, by go_num, HZ3.out⟩
      case measure => simp [intOf]; omega
    · have hik : i = k := by omega
      subst hik
      have HZ := Lib.hid hz; clear hz
      go_wp2_with fail
      go_ret
      exact ⟨ret_int (by rw [HZ.out, HN.out]), rfl⟩

theorem range_all_step (n k : Nat) (f : Nat → Bool) (h : k < n) : ((List.range n).drop k).all f = (f k && ((List.range n).drop (k + 1)).all f) := by
  rw [List.drop_eq_getElem_cons (by simpa using h), List.all_cons, List.getElem_range]
set_option maxRecDepth 100000 in
set_option maxHeartbeats 2000000 in
theorem refMinimal_any (rA : Option Addr) (rl rc : Nat) (rs : List GRule) (mA : Option Addr) (ml mc : Nat) (ms : List Int) (w : World) (h : SlIs ruleR w rA rl rc rs) (hm : SlIs intR w mA ml mc ms) (ok : ∀ r ∈ rs, BodyOk r) (h12 : ml ≤ 12) :
    Calls Tryz.prog 29 #[.slice rA rl rc, .slice mA ml mc] w fun e w' => e = .returned (.bool (refMinB rs ms)) ∧ Below w.heap.size w w' := by
  have hrc := h.cap
  have hrm := h.max
  have hmc := hm.cap
  have hmx := hm.max
  have hml := hm.len
  obtain ⟨N, hN⟩ : ∃ N : Nat, N = 2 ^ ml := ⟨_, rfl⟩
  have hN1 : N ≤ 4096 := by rw [hN]; exact Nat.le_trans (Nat.pow_le_pow_right (by omega) h12) (show 2 ^ 12 ≤ 4096 by decide)
  have hN0 : 0 < N := by rw [hN]; exact Nat.pos_of_ne_zero (by simp)
  have hfin : refMinB rs ms = (satL rs ms && (List.range (N - 1)).all (fun b => !satL rs (pickL ms b))) := by unfold refMinB; rw [hN, hml]
  have cS := fun W (hb : Below w.heap.size w W) => refSat_any rA rl rc rs mA ml mc ms W (h.ext hb) (hm.ext hb) ok
  have cS2 := fun W A l c xs (hb : Below w.heap.size w W) (hx : SlIs intR W A l c xs) => refSat_any rA rl rc rs A l c xs W (h.ext hb) hx ok
  have cP := fun W => refPower_any ml N W h12 hN
  have cU := fun W b (hb : Below w.heap.size w W) hbb => refSubset_any mA ml mc ms b W (hm.ext hb) hbb
  generalize hq0 : satL rs ms = q0 at *
  cases q0 with
  | false =>
    have H := Lib.hid h; clear h
    have HM := Lib.hid hm; clear hm
    have HFIN := Lib.hid hfin; clear hfin
    have OK := Lib.hid ok; clear ok
    have CS := Lib.hid cS; clear cS
    have CS2 := Lib.hid cS2; clear cS2
    have CP := Lib.hid cP; clear cP
    have CU := Lib.hid cU; clear cU
    have HN := Lib.hid hN; clear hN
    have HML := Lib.hid hml; clear hml
    have HQ0 := Lib.hid hq0; clear hq0
    go_enter Tryz.func29, Tryz.ntmps29
    go_wp2_with fail
    go_fit (CS.out _ (Below.refl _ _)); rintro e w1 ⟨rfl, hb1⟩
    have HB1 := Lib.hid hb1
    clear hb1
    go_wp2_with fail
    go_ret
    exact ⟨ret_bool (by rw [HFIN.out]; rfl), HB1.out⟩
  | true =>
    have H := Lib.hid h; clear h
    have HM := Lib.hid hm; clear hm
    have HFIN := Lib.hid hfin; clear hfin
    have OK := Lib.hid ok; clear ok
    have CS := Lib.hid cS; clear cS
    have CS2 := Lib.hid cS2; clear cS2
    have CP := Lib.hid cP; clear cP
    have CU := Lib.hid cU; clear cU
    have HN := Lib.hid hN; clear hN
    have HML := Lib.hid hml; clear hml
    have HQ0 := Lib.hid hq0; clear hq0
    go_enter Tryz.func29, Tryz.ntmps29
    go_wp2_with fail
    go_fit (CS.out _ (Below.refl _ _)); rintro e w1 ⟨rfl, hb1⟩
    have HB1 := Lib.hid hb1
    clear hb1
    go_wp2_with fail
    go_loopw [5] (fun i wr => ∃ k : Nat, k ≤ N - 1 ∧ i = .int .i64 (k : Int) ∧ Below w.heap.size w wr ∧ refMinB rs ms = ((List.range (N - 1)).drop k).all (fun b => !satL rs (pickL ms b))) (fun i _ => N - (intOf i).toNat)
    case atStart => exact ⟨0, Nat.zero_le _, rfl, HB1.out, by rw [HFIN.out]; rfl⟩
    case round =>
      obtain ⟨k, hk, rfl, hbw, hs⟩ := hrel
      have HBW := Lib.hid hbw
      clear hbw
      by_cases hlt : k < N - 1
      · have hst := range_all_step (N - 1) k (fun b => !satL rs (pickL ms b)) hlt
        generalize hq : satL rs (pickL ms k) = q at *
        have HS := Lib.hid hs; clear hs
        have HST := Lib.hid hst; clear hst
        have HQ := Lib.hid hq; clear hq
        go_wp2_with fail
        go_fit (CP.out _); rintro e w' ⟨rfl, rfl⟩
        go_wp2_with fail
        go_fit (CU.out _ k HBW.out (by omega)); rintro e w2 ⟨sA, sl, sc, rfl, hsub, hb2⟩
        have HB2 := Lib.hid (bel_trans HBW.out hb2)
        have hc := CS2.out _ _ _ _ _ HB2.out hsub
        rw [HQ.out] at hc
        clear hb2
        have HSUB := Lib.hid hsub; clear hsub
        have HC := Lib.hid hc; clear hc
        go_wp2_with fail
        go_fit HC.out; rintro e w3 ⟨rfl, hb3⟩
        have HB3 := Lib.hid (bel_trans HB2.out hb3)
        clear hb3
        cases q with
        | true =>
          go_wp2_with fail
          go_ret
          exact ⟨ret_bool (by rw [HS.out, HST.out]; rfl), HB3.out⟩
        | false =>
          go_wp2_with fail
          go_roundw
          case rel => exact ⟨k + 1, by omega, by go_num, HB3.out, by rw [HS.out, HST.out]; rfl⟩
          case measure => simp [intOf]; omega
      · rw [List.drop_eq_nil_of_le (by simp; omega)] at hs
        have HS := Lib.hid hs; clear hs
        go_wp2_with fail
        go_fit (CP.out _); rintro e w' ⟨rfl, rfl⟩
        go_wp2_with fail
        go_ret
        exact ⟨ret_bool (by rw [HS.out]; rfl), HBW.out⟩
end Go.Proofs.YtkofkkfjlccjkaaGreat

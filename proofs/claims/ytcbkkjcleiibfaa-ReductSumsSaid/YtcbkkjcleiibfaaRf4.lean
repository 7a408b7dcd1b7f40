/- The contract of the reference's Definite. -/
import Derived.Test.YtcbkkjcleiibfaaRf3
namespace Go.Proofs.Ytcbkkjcleiibfaa
open Go.RowKit

def defR (n : Int) (r : GRule) : Bool := decide (ruleE r n = 0) && !r.choice && decide (r.head.length ≤ 1) && r.body.all (fun x => decide (0 ≤ x))
def defB (n : Int) (rs : List GRule) : Bool := decide (0 ≤ n) && decide (n ≤ 4000) && decide (rs.length ≤ 40000) && rs.all (defR n)

set_option maxRecDepth 100000 in
set_option maxHeartbeats 400000 in
theorem refDefinite_any (rA : Option Addr) (rl rc : Nat) (rs : List GRule) (n : Int) (w : World) (h : SlIs ruleR w rA rl rc rs) :
    Calls Try.prog 12 #[.int .i64 n, .slice rA rl rc] w fun e w' => e = .returned (.bool (defB n rs)) ∧ Below w.heap.size w w' := by
  have hrc := h.cap
  have hrm := h.max
  have lr := Lib.hid h.len
  have H := Lib.hid h; clear h
  by_cases hc : 0 ≤ n ∧ n ≤ 4000 ∧ rl ≤ 40000
  · obtain ⟨h0, h1, h2⟩ := hc
    have hfin : defB n rs = rs.all (defR n) := by unfold defB; rw [← lr.out]; simp [h0, h1, h2]
    have HFIN := Lib.hid hfin; clear hfin
    go_enter Try.func12, Try.ntmps12
    go_wp2
    go_loopw [5] (fun i wr => ∃ k : Nat, k ≤ rl ∧ i = .int .i64 k ∧ Below w.heap.size w wr ∧ rs.all (defR n) = (rs.drop k).all (defR n)) (fun i _ => rl - (intOf i).toNat)
    case atStart => exact ⟨0, Nat.zero_le _, rfl, Below.refl _ _, rfl⟩
    case round =>
      obtain ⟨k, hk, rfl, hbw, hs⟩ := hrel
      have H1 := Lib.hid (H.out.ext hbw)
      have HBW := Lib.hid hbw
      clear hbw
      have HS := Lib.hid hs; clear hs
      by_cases hlt : k < rl
      · obtain ⟨r, hx, hd⟩ := H.out.drop hlt
        obtain ⟨b, off, hA, hl, hc, bA, bl, bc, wA, wl, wc, rfl, _, f0, f1, f2, f3, f4, f5, g1, g2, g3, g4⟩ := H1.out.rule hx
        have HR := Lib.hid (show RuleIn wr r hA hl hc bA bl bc wA wl wc from ⟨g1, g2, g3, g4⟩)
        have hbc := g3.cap
        have hbm := g3.max
        have l1 := Lib.hid g1.len
        have hst := allD (defR n) r (rs.drop (k + 1))
        have HX := Lib.hid hx; clear hx
        have HD := Lib.hid hd; clear hd
        have G1 := Lib.hid g1; clear g1
        have G2 := Lib.hid g2; clear g2
        have G3 := Lib.hid g3; clear g3
        have G4 := Lib.hid g4; clear g4
        have HST := Lib.hid hst; clear hst
        have hrule := fun W hb => refRule_any r hA hl hc bA bl bc wA wl wc n W (HR.out.ext hb)
        by_cases q0 : ruleE r n = 0
        · have p0 : (ruleE r n != 0) = false := by simpa using q0
          have Q0 := Lib.hid q0; clear q0
          by_cases q1 : r.choice = true
          · rw [q1] at f0
            simp only [q1] at hrule
            have Q1 := Lib.hid q1; clear q1
            have HRULE := Lib.hid hrule; clear hrule
            go_wp2_with fail
            go_fit (HRULE.out _ (bel_alloc _ _)); rintro e w2 ⟨rfl, hb2⟩
            have hc2 := bcell hb2
            have HB2 := Lib.hid (bel_trans HBW.out (bel_trans (bel_alloc _ _) hb2))
            clear hb2
            go_wp2_with fail
            go_ret
            exact ⟨ret_bool (by rw [HFIN.out, HS.out, HD.out, HST.out]; simp [defR, Q1.out]), HB2.out⟩
          · have q1f : r.choice = false := by simpa using q1
            clear q1
            rw [q1f] at f0
            simp only [q1f] at hrule
            have Q1F := Lib.hid q1f; clear q1f
            have HRULE := Lib.hid hrule; clear hrule
            by_cases q2 : 1 < hl
            · go_wp2_with fail
              go_fit (HRULE.out _ (bel_alloc _ _)); rintro e w2 ⟨rfl, hb2⟩
              have hc2 := bcell hb2
              have HB2 := Lib.hid (bel_trans HBW.out (bel_trans (bel_alloc _ _) hb2))
              clear hb2
              go_wp2_with fail
              go_ret
              exact ⟨ret_bool (by rw [HFIN.out, HS.out, HD.out, HST.out]; have : ¬ r.head.length ≤ 1 := (by rw [← l1.out]; omega); simp [defR, this]), HB2.out⟩
            · go_wp2_with fail
              go_fit (HRULE.out _ (bel_alloc _ _)); rintro e w2 ⟨rfl, hb2⟩
              have hc2 := bcell hb2
              have hbx := bel_trans (bel_alloc _ _) hb2
              have HB2 := Lib.hid (bel_trans HBW.out hbx)
              have G3' := Lib.hid (G3.out.ext hbx)
              clear hb2 hbx
              have hdef : defR n r = r.body.all (fun x => decide (0 ≤ x)) := by
                have : r.head.length ≤ 1 := by rw [← l1.out]; omega
                simp [defR, Q0.out, Q1F.out, this]
              have HDEF := Lib.hid hdef; clear hdef
              go_wp2_with fail
              have c4 : w2.cell? ⟨wr.heap.size, 4, none⟩ = some (.slice bA bl bc) := by rw [hc2 _ _ (by simp)]; simp
              clear hc2
              go_loop [7] (fun i => ∃ j : Nat, j ≤ bl ∧ i = .int .i64 j ∧ r.body.all (fun x => decide (0 ≤ x)) = (r.body.drop j).all (fun x => decide (0 ≤ x))) (fun i => bl - (intOf i).toNat)
              case atStart => exact ⟨0, Nat.zero_le _, rfl, rfl⟩
              case round =>
                obtain ⟨j, hj, rfl, hs2⟩ := hrel
                have HS2 := Lib.hid hs2; clear hs2
                by_cases hlt2 : j < bl
                · obtain ⟨x, hx, hd2⟩ := G3'.out.drop hlt2
                  obtain ⟨b2, off2, rfl, hbz, hcell, _⟩ := G3'.out.int hx
                  have HX := Lib.hid hx; clear hx
                  have HD2 := Lib.hid hd2; clear hd2
                  by_cases h6 : x < 0
                  · go_wp2
                    go_ret
                    exact ⟨ret_bool (by rw [HFIN.out, HS.out, HD.out, HST.out, HDEF.out, HS2.out, HD2.out, List.all_cons, decide_eq_false (by omega)]; simp), HB2.out⟩
                  · go_wp2
                    go_round
                    case rel => exact ⟨j + 1, by omega, by go_num, by rw [HS2.out, HD2.out, List.all_cons, decide_eq_true (by omega), Bool.true_and]⟩
                    case measure => simp [intOf]; omega
                · have hd3 : defR n r = true := by rw [HDEF.out, HS2.out, G3'.out.stop (by omega)]; rfl
                  have HD3 := Lib.hid hd3; clear hd3
                  go_wp2
                  go_roundw
                  case rel => exact ⟨k + 1, by omega, by go_num, HB2.out, by rw [HS.out, HD.out, HST.out, HD3.out, Bool.true_and]⟩
                  case measure => simp [intOf]; omega
        · have p0 : (ruleE r n != 0) = true := by simpa using q0
          have Q0 := Lib.hid q0; clear q0
          have HRULE := Lib.hid hrule; clear hrule
          go_wp2_with fail
          go_fit (HRULE.out _ (bel_alloc _ _)); rintro e w2 ⟨rfl, hb2⟩
          have HB2 := Lib.hid (bel_trans HBW.out (bel_trans (bel_alloc _ _) hb2))
          clear hb2
          go_wp2_with fail
          go_ret
          exact ⟨ret_bool (by rw [HFIN.out, HS.out, HD.out, HST.out]; simp [defR, Q0.out]), HB2.out⟩
      · go_wp2
        go_ret
        exact ⟨ret_bool (by rw [HFIN.out, HS.out, H.out.stop (by omega)]; rfl), HBW.out⟩
  · have hneg : defB n rs = false := by
      unfold defB; rw [← lr.out, Bool.eq_false_iff]
      intro hh
      simp only [Bool.and_eq_true, decide_eq_true_eq] at hh
      omega
    have HNEG := Lib.hid hneg; clear hneg
    have HC := Lib.hid hc; clear hc
    go_enter Try.func12, Try.ntmps12
    go_wp2
    all_goals first
      | (go_ret; exact ⟨ret_bool HNEG.out.symm, Below.refl _ _⟩)
      | (exfalso; have := HC.out; omega)
end Go.Proofs.Ytcbkkjcleiibfaa

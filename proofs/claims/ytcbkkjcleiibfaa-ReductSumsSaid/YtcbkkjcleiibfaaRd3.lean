/- Contracts: reduct.definite, Body. -/
import Derived.Test.YtcbkkjcleiibfaaRd2
namespace Go.Proofs.Ytcbkkjcleiibfaa
open Go.RowKit Go.Maps Go.WideMaps

set_option maxHeartbeats 400000 in
theorem defNeg_any (x : Int) (w : World) :
    Calls Try.prog 50 #[.int .i64 x] w fun e w' => e = .returned (.bool (decide (x < 0))) ∧ w = w' := by
  go_enter Try.func50, Try.ntmps50
  go_wp2
  all_goals go_ret
  all_goals exact ⟨ret_bool (by first | exact (decide_eq_true (by omega)).symm | exact (decide_eq_false (by omega)).symm | rfl), rfl⟩

theorem defR_not (n : Int) (r : GRule) : (!defR n r) = (!decide (ruleE r n = 0) || (r.choice || (!decide (r.head.length ≤ 1) || r.body.any (fun x => decide (x < 0))))) := by
  have h : (!r.body.all (fun x => decide (0 ≤ x))) = r.body.any (fun x => decide (x < 0)) := by
    rw [List.not_all_eq_any_not]
    congr 1; funext x
    rw [Bool.eq_iff_iff]; simp
  unfold defR
  rw [Bool.not_and, Bool.not_and, Bool.not_and, h, Bool.not_not, Bool.or_assoc, Bool.or_assoc]

set_option maxRecDepth 100000 in
set_option maxHeartbeats 2000000 in
theorem definiteF_any (r : GRule) (hA : Option Addr) (hl hc : Nat) (bA : Option Addr) (bl bc : Nat) (wA : Option Addr) (wl wc : Nat) (n : Int) (b : Nat) (w : World) (hr : RuleIn w r hA hl hc bA bl bc wA wl wc) (hb : w.cell? ⟨b, 0, none⟩ = some (.int .i64 n)) :
    Calls Try.prog 49 #[.agg #[.bool r.choice, .slice hA hl hc, .bool r.sum, .int .i64 r.bound, .slice bA bl bc, .slice wA wl wc], .pointer (some ⟨b, 0, none⟩)] w fun e w' => e = .returned (.bool (!defR n r)) ∧ Below w.heap.size w w' := by
  have cR := fun W (hb : Below w.heap.size w W) => rule_any r hA hl hc bA bl bc wA wl wc n W (hr.ext hb)
  have cB := fun W (hb : Below w.heap.size w W) => containsFuncI_any bA bl bc r.body 50 #[] (fun x => decide (x < 0)) W (hr.body.ext hb) (fun args W => by kernel_rfl)
      (fun W' x _ _ _ => (defNeg_any x W').mono fun e w' ⟨h1, h2⟩ => ⟨h1, by rw [h2]; exact Below.refl _ _⟩)
  have hfin := defR_not n r
  have hhl := hr.head.len
  rw [← hhl] at hfin
  have hbl := World.block_lt_of_cell? w _ hb
  simp only at hbl
  generalize ruleE r n = v at *
  generalize r.body.any (fun x => decide (x < 0)) = q at *
  have HR := Lib.hid hr; clear hr
  have HFIN := Lib.hid hfin; clear hfin
  have HHL := Lib.hid hhl; clear hhl
  by_cases hv : v = 0
  · have q1 : (v != 0) = false := by simpa using hv
    have HV := Lib.hid hv; clear hv
    by_cases hch : r.choice = true
    · rw [hch] at HFIN ⊢
      simp only [hch] at cR
      have HCH := Lib.hid hch; clear hch
      have CR := Lib.hid cR; clear cR
      have CB := Lib.hid cB; clear cB
      go_enter Try.func49, Try.ntmps49
      go_wp2_with fail
      go_fit (CR.out _ (bel_alloc _ _)); rintro e w1 ⟨rfl, hb1⟩
      have hc1 := bcell hb1
      have HB1 := Lib.hid (bel_trans (bel_alloc _ _) hb1)
      clear hb1
      go_wp2_with fail
      go_ret
      exact ⟨ret_bool (by rw [HFIN.out]; simp), HB1.out⟩
    · have hcf : r.choice = false := by simpa using hch
      clear hch
      rw [hcf] at HFIN ⊢
      simp only [hcf] at cR
      have HCF := Lib.hid hcf; clear hcf
      by_cases h1 : 1 < hl
      · have CR := Lib.hid cR; clear cR
        have CB := Lib.hid cB; clear cB
        go_enter Try.func49, Try.ntmps49
        go_wp2_with fail
        go_fit (CR.out _ (bel_alloc _ _)); rintro e w1 ⟨rfl, hb1⟩
        have hc1 := bcell hb1
        have HB1 := Lib.hid (bel_trans (bel_alloc _ _) hb1)
        clear hb1
        go_wp2_with fail
        go_ret
        exact ⟨ret_bool (by rw [HFIN.out, decide_eq_false (show ¬ hl ≤ 1 by omega)]; simp), HB1.out⟩
      · have q5 : decide ((1 : Int) < (hl : Int)) = false := decide_eq_false (by omega)
        have q6 : decide (1 < hl) = false := decide_eq_false (by omega)
        have hq : (!defR n r) = q := by
          rw [HFIN.out, HV.out, decide_eq_true (show hl ≤ 1 by omega)]; simp
        have CR := Lib.hid cR; clear cR
        have CB := Lib.hid cB; clear cB
        have HQ := Lib.hid hq; clear hq
        go_enter Try.func49, Try.ntmps49
        go_wp2_with fail
        go_fit (CR.out _ (bel_alloc _ _)); rintro e w1 ⟨rfl, hb1⟩
        have hc1 := bcell hb1
        have HB1 := Lib.hid (bel_trans (bel_alloc _ _) hb1)
        clear hb1
        go_wp2_with fail
        go_fit (CB.out _ HB1.out); rintro e w2 ⟨rfl, hb2⟩
        have HB2 := Lib.hid (bel_trans HB1.out hb2)
        clear hb2
        go_wp2_with fail
        go_ret
        exact ⟨ret_bool HQ.out.symm, HB2.out⟩
  · have q1 : (v != 0) = true := by simpa using hv
    have HV := Lib.hid hv; clear hv
    have CR := Lib.hid cR; clear cR
    have CB := Lib.hid cB; clear cB
    go_enter Try.func49, Try.ntmps49
    go_wp2_with fail
    go_fit (CR.out _ (bel_alloc _ _)); rintro e w1 ⟨rfl, hb1⟩
    have HB1 := Lib.hid (bel_trans (bel_alloc _ _) hb1)
    clear hb1
    go_wp2_with fail
    go_ret
    exact ⟨ret_bool (by rw [HFIN.out, decide_eq_false HV.out]; rfl), HB1.out⟩

set_option maxRecDepth 100000 in
set_option maxHeartbeats 2000000 in
theorem definite_any (rA : Option Addr) (rl rc : Nat) (rs : List GRule) (n : Int) (w : World) (h : SlIs ruleR w rA rl rc rs) :
    Calls Try.prog 29 #[.int .i64 n, .slice rA rl rc] w fun e w' => e = .returned (.bool (defB n rs)) ∧ Below w.heap.size w w' := by
  have lr := Lib.hid h.len
  have cI := fun W (b : Nat) (hb : Below w.heap.size w W) (hcell : W.cell? ⟨b, 0, none⟩ = some (.int .i64 n)) =>
      containsFuncR_any rA rl rc rs 49 #[.pointer (some ⟨b, 0, none⟩)] (fun r => !defR n r) W (h.ext hb) (fun args W => by kernel_rfl)
        (fun W' x _ _ _ _ _ _ _ _ _ hb' _ hr => definiteF_any x _ _ _ _ _ _ _ _ _ n b W' hr ((hb'.cell (World.block_lt_of_cell? W _ hcell)).trans hcell))
  have hall := any_not (defR n) rs
  generalize rs.any (fun r => !defR n r) = q at *
  by_cases hc : 0 ≤ n ∧ n ≤ 4000 ∧ rl ≤ 40000
  · obtain ⟨h0, h1, h2⟩ := hc
    have hfin : defB n rs = !q := by unfold defB; rw [← lr.out, hall]; simp [h0, h1, h2]
    have H := Lib.hid h; clear h
    have HFIN := Lib.hid hfin; clear hfin
    have HALL := Lib.hid hall; clear hall
    have CI := Lib.hid cI; clear cI
    go_enter Try.func29, Try.ntmps29
    go_wp2_with fail
    go_fit (CI.out _ w.heap.size (bel_alloc _ _) (by simp)); rintro e w1 ⟨rfl, hb1⟩
    have HB1 := Lib.hid (bel_trans (bel_alloc _ _) hb1)
    clear hb1
    go_wp2_with fail
    go_ret
    exact ⟨ret_bool HFIN.out.symm, HB1.out⟩
  · have hneg : defB n rs = false := by
      unfold defB; rw [← lr.out, Bool.eq_false_iff]
      intro hh
      simp only [Bool.and_eq_true, decide_eq_true_eq] at hh
      omega
    have HNEG := Lib.hid hneg; clear hneg
    have HC := Lib.hid hc; clear hc
    have H := Lib.hid h; clear h
    have CI := Lib.hid cI; clear cI
    have HALL := Lib.hid hall; clear hall
    go_enter Try.func29, Try.ntmps29
    go_wp2_with fail
    all_goals first
      | (go_ret; exact ⟨ret_bool HNEG.out.symm, bel_alloc _ _⟩)
      | (exfalso; have := HC.out; omega)
end Go.Proofs.Ytcbkkjcleiibfaa

/- Contract: stable.Minimal. -/
import Derived.Test.YtkofkkfjlccjkaaGreatSw5
import Derived.Test.YtkofkkfjlccjkaaGreatIst
namespace Go.Proofs.YtkofkkfjlccjkaaGreat
open Go.RowKit

def badRule (n : Int) (r : GRule) : Bool := ruleE r n != 0
/-- The error of Minimal. -/
def minE (n : Int) (rs : List GRule) (m : List Int) : Int := if n < 0 ∨ 4000 < n ∨ rs.any (badRule n) = true ∨ incB n m = false then 2 else if 12 < m.length then 5 else 0
set_option maxRecDepth 100000 in
set_option maxHeartbeats 1000000 in
theorem min1_any (x : GRule) (hA : Option Addr) (hl hc : Nat) (bA : Option Addr) (bl bc : Nat) (wA : Option Addr) (wl wc : Nat) (a : Nat) (n : Int) (w : World) (hx : RuleIn w x hA hl hc bA bl bc wA wl wc) (hcl : w.cell? ⟨a, 0, none⟩ = some (.int .i64 n)) :
    Calls Tryz.prog 61 #[.agg #[.bool x.choice, .slice hA hl hc, .bool x.sum, .int .i64 x.bound, .slice bA bl bc, .slice wA wl wc], .pointer (some ⟨a, 0, none⟩)] w fun e w' => e = .returned (.bool (badRule n x)) ∧ Below w.heap.size w w' := by
  have hal := World.block_lt_of_cell? w _ hcl
  simp only at hal
  have cR := rule_any x hA hl hc bA bl bc wA wl wc n (w.alloc (.cells #[.bool x.choice, .slice hA hl hc, .bool x.sum, .int .i64 x.bound, .slice bA bl bc, .slice wA wl wc] 51)) (hx.ext (bel_alloc _ _))
  have hb : badRule n x = (ruleE x n != 0) := rfl
  generalize ruleE x n = q at *
  have HX := Lib.hid hx; clear hx
  have CR := Lib.hid cR; clear cR
  have HB := Lib.hid hb; clear hb
  go_enter Tryz.func61, Tryz.ntmps61
  go_wp2_with fail
  go_fit CR.out; rintro e w1 ⟨rfl, hb1⟩
  have HB1 := Lib.hid (bel_trans (bel_alloc _ _) hb1)
  clear hb1
  go_wp2_with fail
  go_ret
  exact ⟨ret_bool (by rw [HB.out]), HB1.out⟩
set_option maxRecDepth 100000 in
set_option maxHeartbeats 2000000 in
theorem stableMinimal_any (n : Int) (rA : Option Addr) (rl rc : Nat) (xA : Option Addr) (xl xc : Nat) (rs : List GRule) (m : List Int) (w : World) (h : SlIs ruleR w rA rl rc rs) (hm : SlIs intR w xA xl xc m) :
    Calls Tryz.prog 27 #[.int .i64 n, .slice rA rl rc, .slice xA xl xc] w fun e w' => e = .returned (.tuple #[.bool (decide (minE n rs m = 0) && minC rs m), .int .i64 (minE n rs m)]) ∧ Below w.heap.size w w' := by
  have hb0 : Below w.heap.size w (w.alloc (.cells #[.int .i64 n] 3)) := bel_alloc _ _
  have cF := fun W (hb : Below ((w.alloc (.cells #[.int .i64 n] 3))).heap.size (w.alloc (.cells #[.int .i64 n] 3)) W) => containsFuncR_any rA rl rc rs 61 #[.pointer (some ⟨w.heap.size, 0, none⟩)] (badRule n) W (h.ext (bel_trans hb0 hb)) (fun args W => by kernel_rfl)
    (fun W' x hA hl hc bA bl bc wA wl wc hb' _ hx => min1_any x hA hl hc bA bl bc wA wl wc w.heap.size n W' hx (((Blk.new w 3 #[.int .i64 n]).bel (bel_trans hb hb')).cell 0))
  have cS := fun W (hb : Below w.heap.size w W) => set_any xA xl xc m n W (hm.ext hb)
  have hME : minE n rs m = (if n < 0 ∨ 4000 < n ∨ rs.any (badRule n) = true ∨ incB n m = false then 2 else if 12 < m.length then 5 else 0) := rfl
  rw [← hm.len] at hME
  have hxc := hm.cap
  have hxm := hm.max
  generalize minE n rs m = me at *
  generalize hq : rs.any (badRule n) = q at *
  generalize hz : incB n m = z at *
  by_cases h0 : n < 0
  · rw [if_pos (.inl h0)] at hME
    subst hME
    have H := Lib.hid h; clear h
    have HM := Lib.hid hm; clear hm
    have CF := Lib.hid cF; clear cF
    have CS := Lib.hid cS; clear cS
    have HQ := Lib.hid hq; clear hq
    have HZ := Lib.hid hz; clear hz
    have HB0 := Lib.hid hb0; clear hb0
    go_enter Tryz.func27, Tryz.ntmps27
    go_wp2_with fail
    go_ret2
    exact ⟨rfl, bel_alloc _ _⟩
  · by_cases h1 : 4000 < n
    · rw [if_pos (.inr (.inl h1))] at hME
      subst hME
      have H := Lib.hid h; clear h
      have HM := Lib.hid hm; clear hm
      have CF := Lib.hid cF; clear cF
      have CS := Lib.hid cS; clear cS
      have HQ := Lib.hid hq; clear hq
      have HZ := Lib.hid hz; clear hz
      have HB0 := Lib.hid hb0; clear hb0
      go_enter Tryz.func27, Tryz.ntmps27
      go_wp2_with fail
      go_ret2
      exact ⟨rfl, bel_alloc _ _⟩
    · have hn0 : 0 ≤ n := by omega
      cases q with
      | true =>
        rw [if_pos (.inr (.inr (.inl rfl)))] at hME
        subst hME
        have H := Lib.hid h; clear h
        have HM := Lib.hid hm; clear hm
        have CF := Lib.hid cF; clear cF
        have CS := Lib.hid cS; clear cS
        have HQ := Lib.hid hq; clear hq
        have HZ := Lib.hid hz; clear hz
        have HB0 := Lib.hid hb0; clear hb0
        go_enter Tryz.func27, Tryz.ntmps27
        go_wp2_with fail
        go_fit (CF.out _ (Below.refl _ _)); rintro e w1 ⟨rfl, hb1⟩
        have HB1 := Lib.hid (bel_trans HB0.out hb1)
        clear hb1
        go_wp2_with fail
        go_ret2
        exact ⟨rfl, HB1.out⟩
      | false =>
        cases z with
        | false =>
          rw [if_pos (.inr (.inr (.inr rfl)))] at hME
          subst hME
          have H := Lib.hid h; clear h
          have HM := Lib.hid hm; clear hm
          have CF := Lib.hid cF; clear cF
          have CS := Lib.hid cS; clear cS
          have HQ := Lib.hid hq; clear hq
          have HZ := Lib.hid hz; clear hz
          have HB0 := Lib.hid hb0; clear hb0
          go_enter Tryz.func27, Tryz.ntmps27
          go_wp2_with fail
          go_fit (CF.out _ (Below.refl _ _)); rintro e w1 ⟨rfl, hb1⟩
          have c0 := ((Blk.new w 3 #[.int .i64 n]).bel hb1).cell 0
          have HB1 := Lib.hid (bel_trans HB0.out hb1)
          clear hb1
          go_wp2_with fail
          go_fit (CS.out _ HB1.out); rintro e w2 ⟨rfl, rfl⟩
          go_wp2_with fail
          go_ret2
          exact ⟨rfl, HB1.out⟩
        | true =>
          rw [if_neg (by simp; omega)] at hME
          by_cases h12 : 12 < xl
          · rw [if_pos h12] at hME
            subst hME
            have k12 : (12 : Int) < (xl : Int) := by omega
            have H := Lib.hid h; clear h
            have HM := Lib.hid hm; clear hm
            have CF := Lib.hid cF; clear cF
            have CS := Lib.hid cS; clear cS
            have HQ := Lib.hid hq; clear hq
            have HZ := Lib.hid hz; clear hz
            have HB0 := Lib.hid hb0; clear hb0
            go_enter Tryz.func27, Tryz.ntmps27
            go_wp2_with fail
            go_fit (CF.out _ (Below.refl _ _)); rintro e w1 ⟨rfl, hb1⟩
            have c0 := ((Blk.new w 3 #[.int .i64 n]).bel hb1).cell 0
            have HB1 := Lib.hid (bel_trans HB0.out hb1)
            clear hb1
            go_wp2_with fail
            go_fit (CS.out _ HB1.out); rintro e w2 ⟨rfl, rfl⟩
            go_wp2_with fail
            go_ret2
            exact ⟨rfl, HB1.out⟩
          · rw [if_neg h12] at hME
            subst hME
            have k12 : ¬ (12 : Int) < (xl : Int) := by omega
            have cM := fun W (hb : Below w.heap.size w W) => minimal_any rA rl rc rs xA xl xc m W (h.ext hb) (hm.ext hb) (by omega)
            generalize minC rs m = mc at *
            have H := Lib.hid h; clear h
            have HM := Lib.hid hm; clear hm
            have CF := Lib.hid cF; clear cF
            have CS := Lib.hid cS; clear cS
            have HQ := Lib.hid hq; clear hq
            have HZ := Lib.hid hz; clear hz
            have HB0 := Lib.hid hb0; clear hb0
            have CM := Lib.hid cM; clear cM
            go_enter Tryz.func27, Tryz.ntmps27
            go_wp2_with fail
            go_fit (CF.out _ (Below.refl _ _)); rintro e w1 ⟨rfl, hb1⟩
            have c0 := ((Blk.new w 3 #[.int .i64 n]).bel hb1).cell 0
            have HB1 := Lib.hid (bel_trans HB0.out hb1)
            clear hb1
            go_wp2_with fail
            go_fit (CS.out _ HB1.out); rintro e w2 ⟨rfl, rfl⟩
            go_wp2_with fail
            go_fit (CM.out _ HB1.out); rintro e w3 ⟨rfl, hb3⟩
            have HB3 := Lib.hid (bel_trans HB1.out hb3)
            clear hb3
            go_wp2_with fail
            go_ret2
            exact ⟨by simp, HB3.out⟩
end Go.Proofs.YtkofkkfjlccjkaaGreat

/- Contract: stable.Is, where the program or the set is wrong, or the set is too large for a disjunctive program. -/
import Derived.Test.YtdmcclfagjgcgaaGreatSw7
namespace Go.Proofs.YtdmcclfagjgcgaaGreat
open Go.RowKit

set_option maxRecDepth 100000 in
set_option maxHeartbeats 4000000 in
theorem stableIs_err (p : GProg) (nA : Option Addr) (nl nc : Nat) (sA : Option Addr) (sl sc : Nat) (rA : Option Addr) (rl rc : Nat) (mA : Option Addr) (ml mc : Nat) (xA : Option Addr) (xl xc : Nat) (m : List Int) (w : World) (hp : ProgIn w p nA nl nc sA sl sc rA rl rc mA ml mc) (hm : SlIs intR w xA xl xc m) (hc : checkE p m ≠ 0) :
    Calls Tryz.prog 28 #[.agg #[.int .i64 p.n, .slice nA nl nc, .slice sA sl sc, .slice rA rl rc, .slice mA ml mc], .slice xA xl xc] w fun e w' => e = .returned (.tuple #[.bool false, .int .i64 (checkE p m)]) ∧ Below w.heap.size w w' := by
  have cV := fun W (hb : Below w.heap.size w W) => valid_any p nA nl nc sA sl sc rA rl rc mA ml mc W (hp.ext hb)
  have cD := fun W (hb : Below w.heap.size w W) => disjunctive_any p nA nl nc sA sl sc rA rl rc mA ml mc W (hp.ext hb)
  have cS := fun W (hb : Below w.heap.size w W) => set_any xA xl xc m p.n W (hm.ext hb)
  change ∀ W, Below w.heap.size w W → Calls _ _ _ W fun e w' => e = .returned (.bool (disB p)) ∧ Below W.heap.size W w' at cD
  generalize disB p = d at *
  have hce : checkE p m = checkE p m := rfl
  conv at hce => rhs; unfold checkE
  by_cases hv : validE p = 0
  · rw [hv] at cV hce
    generalize hz : incB p.n m = z at *
    cases z with
    | true => exact absurd (hce.trans (by simp)) hc
    | false =>
      have hce : checkE p m = 2 := hce.trans (by simp)
      rw [hce]
      clear hce
      have HP := Lib.hid hp; clear hp
      have HM := Lib.hid hm; clear hm
      have HV := Lib.hid hv; clear hv
      have HZ := Lib.hid hz; clear hz
      have CV := Lib.hid cV; clear cV
      have CS := Lib.hid cS; clear cS
      have CD := Lib.hid cD; clear cD
      have HC := Lib.hid hc; clear hc
      go_enter Tryz.func28, Tryz.ntmps28
      go_wp2_with fail
      go_fit (CV.out _ (bel_alloc _ _)); rintro e w1 ⟨rfl, hb1⟩
      have hx1 := (Blk.new w 27 #[.int .i64 p.n, .slice nA nl nc, .slice sA sl sc, .slice rA rl rc, .slice mA ml mc]).bel hb1
      obtain ⟨p0, p1, p2, p3, p4, p5⟩ := pcells hx1
      have HB1 := Lib.hid (bel_trans (bel_alloc _ _) hb1)
      clear hb1
      have HX1 := Lib.hid hx1; clear hx1
      go_wp2_with fail
      go_fit (CD.out _ HB1.out); rintro e w2 ⟨rfl, hb2⟩
      have hx2 := HX1.out.bel hb2
      have HB2 := Lib.hid (bel_trans HB1.out hb2)
      clear hb2
      clear p0 p1 p2 p3 p4 p5
      obtain ⟨p0, p1, p2, p3, p4, p5⟩ := pcells hx2
      have HX2 := Lib.hid hx2; clear hx2
      go_wp2_with fail
      go_fit (CS.out _ HB2.out); rintro e w3 ⟨rfl, rfl⟩
      go_wp2_with fail
      go_ret2
      exact ⟨rfl, HB2.out⟩
  · rw [if_pos hv] at hce
    rw [hce]
    generalize validE p = v at *
    have q1 : (v != 0) = true := by simpa using hv
    clear hce
    have HP := Lib.hid hp; clear hp
    have HM := Lib.hid hm; clear hm
    have HV := Lib.hid hv; clear hv
    have CV := Lib.hid cV; clear cV
    have CD := Lib.hid cD; clear cD
    have CS := Lib.hid cS; clear cS
    have HC := Lib.hid hc; clear hc
    go_enter Tryz.func28, Tryz.ntmps28
    go_wp2_with fail
    go_fit (CV.out _ (bel_alloc _ _)); rintro e w1 ⟨rfl, hb1⟩
    have hx1 := (Blk.new w 27 #[.int .i64 p.n, .slice nA nl nc, .slice sA sl sc, .slice rA rl rc, .slice mA ml mc]).bel hb1
    obtain ⟨p0, p1, p2, p3, p4, p5⟩ := pcells hx1
    have HB1 := Lib.hid (bel_trans (bel_alloc _ _) hb1)
    clear hb1
    have HX1 := Lib.hid hx1; clear hx1
    go_wp2_with fail
    go_fit (CD.out _ HB1.out); rintro e w2 ⟨rfl, hb2⟩
    have HB2 := Lib.hid (bel_trans HB1.out hb2)
    clear hb2
    go_wp2_with fail
    go_ret2
    exact ⟨rfl, HB2.out⟩
end Go.Proofs.YtdmcclfagjgcgaaGreat

/- Contract: stable.Is, where the program and the set are right. -/
import Derived.Test.YtdmcclfagjgcgaaGreatSw6
namespace Go.Proofs.YtdmcclfagjgcgaaGreat
open Go.RowKit

set_option maxRecDepth 100000 in
set_option maxHeartbeats 4000000 in
theorem stableIs_any (p : GProg) (nA : Option Addr) (nl nc : Nat) (sA : Option Addr) (sl sc : Nat) (rA : Option Addr) (rl rc : Nat) (mA : Option Addr) (ml mc : Nat) (xA : Option Addr) (xl xc : Nat) (m : List Int) (w : World) (hp : ProgIn w p nA nl nc sA sl sc rA rl rc mA ml mc) (hm : SlIs intR w xA xl xc m) (hc : checkE p m = 0) (hl : xl ≤ 12) (hd : disB p = false → defB p.n (reductL p.rules m) = true) (h0 : 0 ≤ p.n) :
    Calls Tryz.prog 28 #[.agg #[.int .i64 p.n, .slice nA nl nc, .slice sA sl sc, .slice rA rl rc, .slice mA ml mc], .slice xA xl xc] w fun e w' => e = .returned (.tuple #[.bool (isC p m (disB p)), .int .i64 0]) ∧ Below w.heap.size w w' := by
  have hv : validE p = 0 := by
    unfold checkE at hc
    split at hc
    · rename_i h; exact absurd hc h
    · rename_i h; simpa using h
  have hinc := (checkE_is hc).2
  have cV := fun W (hb : Below w.heap.size w W) => valid_any p nA nl nc sA sl sc rA rl rc mA ml mc W (hp.ext hb)
  have cD := fun W (hb : Below w.heap.size w W) => disjunctive_any p nA nl nc sA sl sc rA rl rc mA ml mc W (hp.ext hb)
  have cS := fun W (hb : Below w.heap.size w W) => set_any xA xl xc m p.n W (hm.ext hb)
  have hxc := hm.cap
  have hxm := hm.max
  have e1 : ¬ (12 : Int) < (xl : Int) := by omega
  have cI := fun d W (hb : Below w.heap.size w W) (h1 : d = true → xl ≤ 12) (h2 : d = false → defB p.n (reductL p.rules m) = true) => is_any p nA nl nc sA sl sc rA rl rc mA ml mc xA xl xc m d W (hp.ext hb) (hm.ext hb) hc h1 h2 h0
  rw [hv] at cV
  rw [hinc] at cS
  change ∀ W, Below w.heap.size w W → Calls _ _ _ W fun e w' => e = .returned (.bool (disB p)) ∧ Below W.heap.size W w' at cD
  generalize hdd : disB p = d at *
  cases d with
  | true =>
    have cI := fun W hb => cI true W hb (fun _ => hl) (fun h => by cases h)
    have HP := Lib.hid hp; clear hp
    have HM := Lib.hid hm; clear hm
    have HC := Lib.hid hc; clear hc
    have HD := Lib.hid hd; clear hd
    have CV := Lib.hid cV; clear cV
    have CD := Lib.hid cD; clear cD
    have CS := Lib.hid cS; clear cS
    have HINC := Lib.hid hinc; clear hinc
    have HV := Lib.hid hv; clear hv
    have HDD := Lib.hid hdd; clear hdd
    have CI := Lib.hid cI; clear cI
    go_enter Tryz.func28, Tryz.ntmps28
    go_wp2_with fail
    go_fit (CV.out _ (bel_alloc _ _)); rintro e w1 ⟨rfl, hb1⟩
    have hx1 := (Blk.new w 27 #[.int .i64 p.n, .slice nA nl nc, .slice sA sl sc, .slice rA rl rc, .slice mA ml mc]).bel hb1
    obtain ⟨p0, p1, p2, p3, p4, p5⟩ := pcells hx1
    have HB1 := Lib.hid (bel_trans (bel_alloc _ _) hb1)
    clear hb1
    have HX1 := Lib.hid hx1; clear hx1
    go_wp2_with fail
    go_fit (CD.out _ HB1.out); rintro e w2 ⟨rfl, hb2⟩
    have hx2 := HX1.out.bel hb2
    have HB2 := Lib.hid (bel_trans HB1.out hb2)
    clear hb2 p0 p1 p2 p3 p4 p5
    obtain ⟨p0, p1, p2, p3, p4, p5⟩ := pcells hx2
    have HX2 := Lib.hid hx2; clear hx2
    go_wp2_with fail
    go_fit (CS.out _ HB2.out); rintro e w3 ⟨rfl, rfl⟩
    go_wp2_with fail
    go_fit (CI.out _ HB2.out); rintro e w4 ⟨rfl, hb4⟩
    have HB4 := Lib.hid (bel_trans HB2.out hb4)
    clear hb4
    go_wp2_with fail
    go_ret2
    exact ⟨by rfl, HB4.out⟩
  | false =>
    have cI := fun W hb => cI false W hb (fun h => by cases h) (fun _ => hd rfl)
    have HP := Lib.hid hp; clear hp
    have HM := Lib.hid hm; clear hm
    have HC := Lib.hid hc; clear hc
    have HD := Lib.hid hd; clear hd
    have CV := Lib.hid cV; clear cV
    have CD := Lib.hid cD; clear cD
    have CS := Lib.hid cS; clear cS
    have HINC := Lib.hid hinc; clear hinc
    have HV := Lib.hid hv; clear hv
    have HDD := Lib.hid hdd; clear hdd
    have CI := Lib.hid cI; clear cI
    go_enter Tryz.func28, Tryz.ntmps28
    go_wp2_with fail
    go_fit (CV.out _ (bel_alloc _ _)); rintro e w1 ⟨rfl, hb1⟩
    have hx1 := (Blk.new w 27 #[.int .i64 p.n, .slice nA nl nc, .slice sA sl sc, .slice rA rl rc, .slice mA ml mc]).bel hb1
    obtain ⟨p0, p1, p2, p3, p4, p5⟩ := pcells hx1
    have HB1 := Lib.hid (bel_trans (bel_alloc _ _) hb1)
    clear hb1
    have HX1 := Lib.hid hx1; clear hx1
    go_wp2_with fail
    go_fit (CD.out _ HB1.out); rintro e w2 ⟨rfl, hb2⟩
    have hx2 := HX1.out.bel hb2
    have HB2 := Lib.hid (bel_trans HB1.out hb2)
    clear hb2 p0 p1 p2 p3 p4 p5
    obtain ⟨p0, p1, p2, p3, p4, p5⟩ := pcells hx2
    have HX2 := Lib.hid hx2; clear hx2
    go_wp2_with fail
    go_fit (CS.out _ HB2.out); rintro e w3 ⟨rfl, rfl⟩
    go_wp2_with fail
    go_fit (CI.out _ HB2.out); rintro e w4 ⟨rfl, hb4⟩
    have HB4 := Lib.hid (bel_trans HB2.out hb4)
    clear hb4
    go_wp2_with fail
    go_ret2
    exact ⟨by rfl, HB4.out⟩
end Go.Proofs.YtdmcclfagjgcgaaGreat

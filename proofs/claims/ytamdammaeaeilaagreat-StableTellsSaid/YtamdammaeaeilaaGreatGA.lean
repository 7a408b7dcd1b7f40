/- Several texts in one: Rrc, Eal, Rbe. -/
import Derived.Test.YtamdammaeaeilaaGreatRrd
import Derived.Test.YtamdammaeaeilaaGreatG7
import Derived.Test.YtamdammaeaeilaaGreatG9
import Derived.Test.YtamdammaeaeilaaGreatMdp
import Derived.Test.YtamdammaeaeilaaGreatSwa
import Derived.Test.YtamdammaeaeilaaGreatInv
/- Contracts of the reference: Reduct and Is. -/
namespace Go.Proofs.YtamdammaeaeilaaGreat
open Go.RowKit

theorem redOne_len' {r : GRule} {n : Int} (hi : RuleIs r n) (m : List Int) : (redOne m r).length ≤ 4001 := by
  have h1 := inc_len' hi.head hi.n0
  have h2 := hi.n1
  unfold redOne
  split
  · simp
  · split
    · rw [List.length_map]
      have := List.length_filter_le (fun a => decide (a ∈ m)) r.head
      omega
    · simp
theorem reductL_take_len {rs : List GRule} {n : Int} (hi : ∀ r ∈ rs, RuleIs r n) (m : List Int) (k : Nat) (hk : k ≤ rs.length) : (reductL (rs.take k) m).length ≤ 4001 * k := by
  induction k with
  | zero => simp [reductL]
  | succ k ih =>
    have hx : rs[k]? = some rs[k] := List.getElem?_eq_getElem (by omega)
    rw [reductL_take hx, List.length_append]
    have h1 := ih (by omega)
    have h2 := redOne_len' (hi rs[k] (List.getElem_mem _)) m
    omega
set_option maxRecDepth 100000 in
set_option maxHeartbeats 4000000 in
theorem refReduct_any (p : GProg) (nA : Option Addr) (nl nc : Nat) (sA : Option Addr) (sl sc : Nat) (rA : Option Addr) (rl rc : Nat) (mA : Option Addr) (ml mc : Nat) (xA : Option Addr) (xl xc : Nat) (m : List Int) (w : World) (hp : ProgIn w p nA nl nc sA sl sc rA rl rc mA ml mc) (hm : SlIs intR w xA xl xc m) (hi : ∀ r ∈ p.rules, RuleIs r p.n) (hl : p.rules.length ≤ 40000) :
    Calls Tryz.prog 63 #[.agg #[.int .i64 p.n, .slice nA nl nc, .slice sA sl sc, .slice rA rl rc, .slice mA ml mc], .slice xA xl xc] w fun e w' => ∃ A l c, e = .returned (.slice A l c) ∧ SlIs ruleR w' A l c (reductL p.rules m) ∧ Below w.heap.size w w' := by
  have hb0 := bel_alloc w (.cells #[.int .i64 p.n, .slice nA nl nc, .slice sA sl sc, .slice rA rl rc, .slice mA ml mc] 27)
  have hx0 := Blk.new w 27 #[.int .i64 p.n, .slice nA nl nc, .slice sA sl sc, .slice rA rl rc, .slice mA ml mc]
  have hrl := hp.rules.len
  have hrc := hp.rules.cap
  have hrm := hp.rules.max
  have hr0 := hp.rules.ext hb0
  have hm0 := hm.ext hb0
  obtain ⟨W0, hW0⟩ : ∃ W0, W0 = w.alloc (.cells #[.int .i64 p.n, .slice nA nl nc, .slice sA sl sc, .slice rA rl rc, .slice mA ml mc] 27) := ⟨_, rfl⟩
  have hws : W0.heap.size = w.heap.size + 1 := by rw [hW0]; simp
  rw [← hW0] at hb0 hx0 hr0 hm0
  have hl4 : rl ≤ 40000 := by omega
  have hll := fun k => reductL_take_len hi m k
  rw [← hrl] at hll
  have HM := Lib.hid hm; clear hm
  have HP := Lib.hid hp; clear hp
  have HI := Lib.hid hi; clear hi
  have HB0 := Lib.hid hb0; clear hb0
  have HX0 := Lib.hid hx0; clear hx0
  have HR0 := Lib.hid hr0; clear hr0
  have HM0 := Lib.hid hm0; clear hm0
  have HL := Lib.hid hl; clear hl
  have HLL := Lib.hid hll; clear hll
  have HRL := Lib.hid hrl; clear hrl
  go_enter Tryz.func63, Tryz.ntmps63
  go_wp2_with fail
  rw [← hW0]
  clear hW0
  go_loopw [5, 6] (fun v t wr => ∃ (k : Nat), k ≤ rl ∧ t = .int .i64 (k : Int) ∧ RowO ruleR 55 [] W0.heap.size wr v (reductL (p.rules.take k) m) ∧ Below W0.heap.size W0 wr) (fun _ t _ => rl - (intOf t).toNat)
  case atStart => exact ⟨0, Nat.zero_le _, rfl, RowO.nil (Nat.le_refl _), Below.refl _ _⟩
  case round =>
    obtain ⟨k, hk, rfl, ho, hbw⟩ := hrel
    have hbx := HX0.out.bel hbw
    obtain ⟨p0, p1, p2, p3, p4, p5⟩ := pcells hbx
    by_cases hlt : k < rl
    · obtain ⟨r, hx, -⟩ := HR0.out.drop hlt
      obtain ⟨b, off, hA, hl, hc, bA, bl, bc, wA, wl, wc, rfl, hbl2, c0, c1, c2, c3, c4, c5, g1, g2, g3, g4⟩ := (HR0.out.ext hbw).rule hx
      obtain ⟨_, _, hA', hl', hc', bA', bl', bc', wA', wl', wc', e0, _, d0, d1, d2, d3, d4, d5, q1, q2, q3, q4⟩ := HR0.out.rule hx
      injection e0 with e0
      injection e0 with e0 e00
      subst e0 e00
      have eq1 := (hbw.cell (World.block_lt_of_cell? _ _ d1)).trans d1
      have eq4 := (hbw.cell (World.block_lt_of_cell? _ _ d4)).trans d4
      have eq5 := (hbw.cell (World.block_lt_of_cell? _ _ d5)).trans d5
      rw [c1] at eq1
      rw [c4] at eq4
      rw [c5] at eq5
      injection eq1 with eq1
      injection eq1 with eq1 eq1' eq1''
      injection eq4 with eq4
      injection eq4 with eq4 eq4' eq4''
      injection eq5 with eq5
      injection eq5 with eq5 eq5' eq5''
      subst eq1 eq1' eq1'' eq4 eq4' eq4'' eq5 eq5' eq5''
      have k0 : (0 : Int) ≤ (k : Int) := by omega
      have k1 : (k : Int) < (rl : Int) := by omega
      have htk := reductL_take (m := m) hx
      have hlk := HLL.out k (by omega)
      have hri := HI.out r (List.mem_of_getElem? hx)
      have hol := redOne_len' hri m
      have cR := refReduced_any r hA hl hc bA bl bc wA wl wc xA xl xc m p.n W0 wr hbw ⟨q1, q2, q3, q4⟩ HM0.out hri (ownL u5) (fun q hq => ho.lt (ownL_mem.1 hq))
      clear d0 d1 d2 d3 d4 d5
      have HX := Lib.hid hx; clear hx
      have HO := Lib.hid ho; clear ho
      have HBW := Lib.hid hbw; clear hbw
      have HBX := Lib.hid hbx; clear hbx
      have HTK := Lib.hid htk; clear htk
      have G1 := Lib.hid g1; clear g1
      have G2 := Lib.hid g2; clear g2
      have G3 := Lib.hid g3; clear g3
      have G4 := Lib.hid g4; clear g4
      have Q1 := Lib.hid q1; clear q1
      have Q2 := Lib.hid q2; clear q2
      have Q3 := Lib.hid q3; clear q3
      have Q4 := Lib.hid q4; clear q4
      have CR := Lib.hid cR; clear cR
      have HRI := Lib.hid hri; clear hri
      go_wp2_with fail
      go_fit CR.out; rintro e w2 ⟨A, l, c, rfl, hst, hfr, hb2⟩
      have ho2 := HO.out.bel hb2
      have hl2 := hst.now.len
      obtain ⟨v1, w3, hrun, own1, hg1, hat1⟩ := ho2.appS ety_rule (S := []) hst (fun h0 ad e hm => by have h5 := hfr h0 ad e; have h6 := (HO.out.lt (ownL_mem.1 hm)).2; omega) (by omega) 24
      have hb3 := bel_grown (bel_trans HBW.out hb2) hg1 (bel_trans HBW.out hb2).size (fun q hq => (HO.out.lt hq).1)
      rw [← HTK.out] at own1
      have HST := Lib.hid hst; clear hst
      have HFR := Lib.hid hfr; clear hfr
      have HB2 := Lib.hid hb2; clear hb2
      have HO2 := Lib.hid ho2; clear ho2
      have HRUN := Lib.hid hrun; clear hrun
      have OWN1 := Lib.hid own1; clear own1
      have HG1 := Lib.hid hg1; clear hg1
      have HAT1 := Lib.hid hat1; clear hat1
      have HB3 := Lib.hid hb3; clear hb3
      have HL2 := Lib.hid hl2; clear hl2
      clear c0 c1 c2 c3 c4 c5 p0 p1 p2 p3 p4 p5
      go_wp2_with (at_builtin; refine wpList_append_run rfl _ _ _ rfl _ _ rfl rfl _ _ HRUN.out ?_)
      go_roundw
      case rel => exact ⟨k + 1, by omega, by go_num, OWN1.out, HB3.out⟩
      case measure => simp [intOf]; omega
    · rw [List.take_of_length_le (by rw [← HRL.out]; omega)] at ho
      have hlk := HLL.out rl (by omega)
      rw [List.take_of_length_le (by rw [← HRL.out]; omega)] at hlk
      obtain ⟨vA, vc, rfl, hsv⟩ := ho.sl (by omega)
      have hbf := bel_trans HB0.out hbw
      have HO := Lib.hid ho; clear ho
      have HSV := Lib.hid hsv; clear hsv
      have HBW := Lib.hid hbw; clear hbw
      have HBF := Lib.hid hbf; clear hbf
      have HBX := Lib.hid hbx; clear hbx
      go_wp2_with fail
      go_ret
      exact ⟨_, _, _, rfl, HSV.out, HBF.out⟩
set_option maxRecDepth 100000 in
set_option maxHeartbeats 4000000 in
theorem refIs_any (p : GProg) (nA : Option Addr) (nl nc : Nat) (sA : Option Addr) (sl sc : Nat) (rA : Option Addr) (rl rc : Nat) (mA : Option Addr) (ml mc : Nat) (xA : Option Addr) (xl xc : Nat) (m : List Int) (w : World) (hp : ProgIn w p nA nl nc sA sl sc rA rl rc mA ml mc) (hm : SlIs intR w xA xl xc m) (hi : ProgIs p) (hl : p.rules.length ≤ 40000) (h0 : 0 ≤ p.n) (hinc : incB p.n m = true) (h12 : xl ≤ 12) :
    Calls Tryz.prog 20 #[.agg #[.int .i64 p.n, .slice nA nl nc, .slice sA sl sc, .slice rA rl rc, .slice mA ml mc], .slice xA xl xc] w fun e w' => e = .returned (.bool (isL p m)) ∧ Below w.heap.size w w' := by
  have hb0 := bel_alloc w (.cells #[.int .i64 p.n, .slice nA nl nc, .slice sA sl sc, .slice rA rl rc, .slice mA ml mc] 27)
  have hx0 := Blk.new w 27 #[.int .i64 p.n, .slice nA nl nc, .slice sA sl sc, .slice rA rl rc, .slice mA ml mc]
  have cS := fun W (hb : Below w.heap.size w W) => refSat_any rA rl rc p.rules xA xl xc m W (hp.rules.ext hb) (hm.ext hb) (fun r hr => (hi.rules r hr).ok)
  have cR := fun W (hb : Below w.heap.size w W) => refReduct_any p nA nl nc sA sl sc rA rl rc mA ml mc xA xl xc m W (hp.ext hb) (hm.ext hb) hi.rules hl
  have cM := fun A l c W (hb : Below w.heap.size w W) (h : SlIs ruleR W A l c (reductL p.rules m)) => refMinimal_any A l c _ xA xl xc m W h (hm.ext hb) (fun r hr => (ruleE_is (reductL_is m p.rules hi.rules r hr).1).ok) h12
  have hfin := is_ref hi hinc h0
  have HM := Lib.hid hm; clear hm
  have HP := Lib.hid hp; clear hp
  have HI := Lib.hid hi; clear hi
  have HB0 := Lib.hid hb0; clear hb0
  have HX0 := Lib.hid hx0; clear hx0
  have CS := Lib.hid cS; clear cS
  have CR := Lib.hid cR; clear cR
  have CM := Lib.hid cM; clear cM
  have HFIN := Lib.hid hfin; clear hfin
  go_enter Tryz.func20, Tryz.ntmps20
  go_wp2_with fail
  go_fit (CS.out _ HB0.out); rintro e w1 ⟨rfl, hb1⟩
  have hbw1 := bel_trans HB0.out hb1
  cases hsat : satL p.rules m with
  | false =>
    have hfin := HFIN.out
    rw [hsat, Bool.false_and] at hfin
    have HB1 := Lib.hid hb1; clear hb1
    have HBW1 := Lib.hid hbw1; clear hbw1
    have HSAT := Lib.hid hsat; clear hsat
    have HFIN := Lib.hid hfin; clear hfin
    go_wp2_with fail
    go_ret
    exact ⟨ret_bool HFIN.out, HBW1.out⟩
  | true =>
    have hfin := HFIN.out
    rw [hsat, Bool.true_and] at hfin
    have hbx := HX0.out.bel hb1
    obtain ⟨p0, p1, p2, p3, p4, p5⟩ := pcells hbx
    have HB1 := Lib.hid hb1; clear hb1
    have HBW1 := Lib.hid hbw1; clear hbw1
    have HSAT := Lib.hid hsat; clear hsat
    have HBX := Lib.hid hbx; clear hbx
    go_wp2_with fail
    go_fit (CR.out _ HBW1.out); rintro e w2 ⟨A, l, c, rfl, hs, hb2⟩
    have hbw2 := bel_trans HBW1.out hb2
    have cM2 := CM.out A l c w2 hbw2 hs
    rw [hfin] at cM2
    have HB2 := Lib.hid hb2; clear hb2
    have HBW2 := Lib.hid hbw2; clear hbw2
    have HS := Lib.hid hs; clear hs
    have CM2 := Lib.hid cM2; clear cM2
    have HFIN := Lib.hid hfin; clear hfin
    go_wp2_with fail
    go_fit CM2.out; rintro e w3 ⟨rfl, hb3⟩
    have hbw3 := bel_trans HBW2.out hb3
    have HB3 := Lib.hid hb3; clear hb3
    have HBW3 := Lib.hid hbw3; clear hbw3
    go_wp2_with fail
    go_ret
    exact ⟨rfl, HBW3.out⟩
end Go.Proofs.YtamdammaeaeilaaGreat
/- Contracts: stable.All and stable.Best where they answer with an error. -/
namespace Go.Proofs.YtamdammaeaeilaaGreat
open Go.RowKit

/-- The error of All. -/
def allE (p : GProg) : Int := if validE p ≠ 0 then validE p else if 12 < p.n then 5 else 0
set_option maxRecDepth 100000 in
set_option maxHeartbeats 2000000 in
theorem all_err (p : GProg) (nA : Option Addr) (nl nc : Nat) (sA : Option Addr) (sl sc : Nat) (rA : Option Addr) (rl rc : Nat) (mA : Option Addr) (ml mc : Nat) (w : World) (hp : ProgIn w p nA nl nc sA sl sc rA rl rc mA ml mc) (hv : allE p ≠ 0) :
    Calls Tryz.prog 12 #[.agg #[.int .i64 p.n, .slice nA nl nc, .slice sA sl sc, .slice rA rl rc, .slice mA ml mc]] w fun e w' => e = .returned (.tuple #[.slice none 0 0, .int .i64 (allE p)]) ∧ Below w.heap.size w w' := by
  have cV := fun W (hb : Below w.heap.size w W) => valid_any p nA nl nc sA sl sc rA rl rc mA ml mc W (hp.ext hb)
  have hA : allE p = if validE p ≠ 0 then validE p else if 12 < p.n then 5 else 0 := rfl
  by_cases h0 : validE p = 0
  · rw [h0, if_neg (by simp)] at hA
    rw [h0] at cV
    by_cases h12 : 12 < p.n
    · rw [if_pos h12] at hA
      rw [hA]
      have HP := Lib.hid hp; clear hp
      have CV := Lib.hid cV; clear cV
      have HA := Lib.hid hA; clear hA
      have H0 := Lib.hid h0; clear h0
      have HV := Lib.hid hv; clear hv
      go_enter Tryz.func12, Tryz.ntmps12
      go_wp2_with fail
      go_fit (CV.out _ (bel_alloc _ _)); rintro e w1 ⟨rfl, hb1⟩
      have hx1 := (Blk.new w 27 #[.int .i64 p.n, .slice nA nl nc, .slice sA sl sc, .slice rA rl rc, .slice mA ml mc]).bel hb1
      obtain ⟨p0, p1, p2, p3, p4, p5⟩ := pcells hx1
      have HB1 := Lib.hid (bel_trans (bel_alloc _ _) hb1)
      clear hb1
      have HX1 := Lib.hid hx1; clear hx1
      go_wp2_with fail
      go_ret2
      exact ⟨rfl, HB1.out⟩
    · rw [if_neg h12] at hA
      exact absurd hA hv
  · rw [if_pos h0] at hA
    rw [hA]
    generalize validE p = v at *
    have q1 : (v != 0) = true := by simpa using h0
    have HP := Lib.hid hp; clear hp
    have CV := Lib.hid cV; clear cV
    have HA := Lib.hid hA; clear hA
    have H0 := Lib.hid h0; clear h0
    have HV := Lib.hid hv; clear hv
    go_enter Tryz.func12, Tryz.ntmps12
    go_wp2_with fail
    go_fit (CV.out _ (bel_alloc _ _)); rintro e w1 ⟨rfl, hb1⟩
    have HB1 := Lib.hid (bel_trans (bel_alloc _ _) hb1)
    clear hb1
    go_wp2_with fail
    go_ret2
    exact ⟨rfl, HB1.out⟩
set_option maxRecDepth 100000 in
set_option maxHeartbeats 2000000 in
theorem best_err (p : GProg) (nA : Option Addr) (nl nc : Nat) (sA : Option Addr) (sl sc : Nat) (rA : Option Addr) (rl rc : Nat) (mA : Option Addr) (ml mc : Nat) (w : World) (hp : ProgIn w p nA nl nc sA sl sc rA rl rc mA ml mc) (hv : allE p ≠ 0) :
    Calls Tryz.prog 13 #[.agg #[.int .i64 p.n, .slice nA nl nc, .slice sA sl sc, .slice rA rl rc, .slice mA ml mc]] w fun e w' => e = .returned (.tuple #[.slice none 0 0, .slice none 0 0, .int .i64 (allE p)]) ∧ Below w.heap.size w w' := by
  have cA := fun W (hb : Below w.heap.size w W) => all_err p nA nl nc sA sl sc rA rl rc mA ml mc W (hp.ext hb) hv
  generalize allE p = v at *
  have q1 : (v != 0) = true := by simpa using hv
  have HP := Lib.hid hp; clear hp
  have CA := Lib.hid cA; clear cA
  have HV := Lib.hid hv; clear hv
  go_enter Tryz.func13, Tryz.ntmps13
  go_wp2_with fail
  go_fit (CA.out _ (bel_alloc _ _)); rintro e w1 ⟨rfl, hb1⟩
  have HB1 := Lib.hid (bel_trans (bel_alloc _ _) hb1)
  clear hb1
  go_wp2_with fail
  go_ret3
  exact ⟨rfl, HB1.out⟩
end Go.Proofs.YtamdammaeaeilaaGreat
/- Contract of the reference: Best, given that of All. -/
namespace Go.Proofs.YtamdammaeaeilaaGreat
open Go.RowKit

/-- Nothing among all is better. -/
def optB (c : List Int → List Int) (all : List (List Int)) (m : List Int) : Bool := all.all (fun x => !betB (c x) (c m))
def lastC (c : List Int → List Int) (l : List (List Int)) : List Int := match l.getLast? with
  | some m => c m
  | none => []
theorem lastC_snoc (c : List Int → List Int) (l : List (List Int)) (m : List Int) : lastC c (l ++ [m]) = c m := by unfold lastC; rw [List.getLast?_concat]
theorem step_mem (c : List Int → List Int) (s : List (List Int) × List Int) (m : List Int) : (bestStep c s m).2 = s.2 ∨ (bestStep c s m).2 = c m := by
  unfold bestStep
  cases betB (c m) s.2 with
  | true => simp only [if_true]; rw [betB_irrefl]; exact .inr rfl
  | false =>
    simp only [Bool.false_eq_true, if_false]
    cases betB s.2 (c m) <;> exact .inl rfl
theorem fold_mem (c : List Int → List Int) : ∀ (l : List (List Int)) (s : List (List Int) × List Int), (l.foldl (bestStep c) s).2 = s.2 ∨ ∃ x ∈ l, (l.foldl (bestStep c) s).2 = c x
  | [], s => .inl rfl
  | m :: t, s => by
    rw [List.foldl_cons]
    rcases fold_mem c t (bestStep c s m) with h | ⟨x, hx, h⟩
    · rcases step_mem c s m with h2 | h2
      · exact .inl (h.trans h2)
      · exact .inr ⟨m, by simp, h.trans h2⟩
    · exact .inr ⟨x, by simp [hx], h⟩
/-- What the reference picks is what Best picks. -/
theorem best_ref {c : List Int → List Int} {k : Nat} (hk : ∀ m, (c m).length = k) (all : List (List Int)) : bestL c all = (all.filter (optB c all), lastC c (all.filter (optB c all))) := by
  cases all with
  | nil => rfl
  | cons m t =>
    have h := best_is hk (m :: t) (by simp)
    have hmem : ∃ x ∈ m :: t, (bestL c (m :: t)).2 = c x := by
      rcases fold_mem c (m :: t) ([], c m) with h1 | h1
      · exact ⟨m, by simp, h1⟩
      · exact h1
    obtain ⟨x, hx, hxe⟩ := hmem
    have hopt : ∀ y ∈ m :: t, optB c (m :: t) y = decide (c y = (bestL c (m :: t)).2) := fun y hy => by
      rw [Bool.eq_iff_iff, decide_eq_true_eq]
      unfold optB
      rw [List.all_eq_true]
      constructor
      · intro h1
        have h2 := h1 x hx
        rw [← hxe] at h2
        exact betB_eq _ _ (by rw [hk, h.len]) (h.least y hy) (by simpa using h2)
      · intro h1 z hz
        rw [h1, h.least z hz]; rfl
    have hf : (m :: t).filter (optB c (m :: t)) = (bestL c (m :: t)).1 := by
      rw [h.out]
      exact List.filter_congr hopt
    refine Prod.ext hf.symm ?_
    have hxf : x ∈ (m :: t).filter (optB c (m :: t)) := List.mem_filter.2 ⟨hx, by rw [hopt x hx, hxe]; simp⟩
    unfold lastC
    cases hl : ((m :: t).filter (optB c (m :: t))).getLast? with
    | none => rw [List.getLast?_eq_none_iff] at hl; rw [hl] at hxf; cases hxf
    | some y =>
      have hy := List.mem_of_getLast? hl
      obtain ⟨h1, h2⟩ := List.mem_filter.1 hy
      rw [hopt y h1] at h2
      exact (of_decide_eq_true h2).symm
theorem optB_take (c : List Int → List Int) (all : List (List Int)) (m : List Int) {j : Nat} {x : List Int} (h : all[j]? = some x) : (all.take (j + 1)).all (fun x => !betB (c x) (c m)) = ((all.take j).all (fun x => !betB (c x) (c m)) && !betB (c x) (c m)) := by
  rw [take_snoc' h, List.all_append]; simp
set_option maxRecDepth 100000 in
set_option maxHeartbeats 4000000 in
theorem refAllP_any (p : GProg) (nA : Option Addr) (nl nc : Nat) (sA : Option Addr) (sl sc : Nat) (rA : Option Addr) (rl rc : Nat) (mA : Option Addr) (ml mc : Nat) (w : World) (hp : ProgIn w p nA nl nc sA sl sc rA rl rc mA ml mc) (hs : SmallP p) :
    Calls Tryz.prog 17 #[.agg #[.int .i64 p.n, .slice nA nl nc, .slice sA sl sc, .slice rA rl rc, .slice mA ml mc]] w fun e w' => ∃ A l c, e = .returned (.slice A l c) ∧ SlIs (slR intR) w' A l c (allL p) ∧ Below w.heap.size w w' :=
  refAll_any p nA nl nc sA sl sc rA rl rc mA ml mc w hs.n0 hs.n12 (fun A l c x W hb hx hsub =>
    refIs_any p nA nl nc sA sl sc rA rl rc mA ml mc A l c x W (hp.ext hb) hx hs.is (Nat.le_trans hs.few (by omega)) hs.n0 (by
      have := (atoms_sub p.n.toNat x).1 hsub
      rwa [show ((p.n.toNat : Nat) : Int) = p.n by have := hs.n0; omega] at this) (by
      have h1 := hsub.length_le
      have h2 : (atomsL p.n.toNat).length = p.n.toNat := by simp [atomsL]
      have := hx.len; have := hs.n12; omega))
set_option maxRecDepth 100000 in
set_option maxHeartbeats 4000000 in
theorem refBest_any (p : GProg) (nA : Option Addr) (nl nc : Nat) (sA : Option Addr) (sl sc : Nat) (rA : Option Addr) (rl rc : Nat) (mA : Option Addr) (ml mc : Nat) (w : World) (hp : ProgIn w p nA nl nc sA sl sc rA rl rc mA ml mc) (hv : validE p = 0) (hs : SmallP p) :
    Calls Tryz.prog 19 #[.agg #[.int .i64 p.n, .slice nA nl nc, .slice sA sl sc, .slice rA rl rc, .slice mA ml mc]] w fun e w' => ∃ A l c B k q, e = .returned (.tuple #[.slice A l c, .slice B k q]) ∧ SlIs (slR intR) w' A l c (bestL (costL p) (allL p)).1 ∧ SlIs intR w' B k q (bestL (costL p) (allL p)).2 ∧ Below w.heap.size w w' := by
  have hb0 := bel_alloc w (.cells #[.int .i64 p.n, .slice nA nl nc, .slice sA sl sc, .slice rA rl rc, .slice mA ml mc] 27)
  have hx0 := Blk.new w 27 #[.int .i64 p.n, .slice nA nl nc, .slice sA sl sc, .slice rA rl rc, .slice mA ml mc]
  have cA := fun W (hb : Below w.heap.size w W) => refAllP_any p nA nl nc sA sl sc rA rl rc mA ml mc W (hp.ext hb) hs
  have cC := fun A l c x W (hb : Below w.heap.size w W) (hx : SlIs intR W A l c x) => refCosts_any p nA nl nc sA sl sc rA rl rc mA ml mc A l c x W (hp.ext hb) hx (valid_lev hv)
  have hal := hs.all_le
  have hfin := best_ref (fun m => cost_len p m) (allL p)
  generalize allL p = all at *
  generalize costL p = cf at *
  rw [hfin]
  have HP := Lib.hid hp; clear hp
  have CA := Lib.hid cA; clear cA
  have CC := Lib.hid cC; clear cC
  have HB0 := Lib.hid hb0; clear hb0
  have HX0 := Lib.hid hx0; clear hx0
  have HFIN := Lib.hid hfin; clear hfin
  go_enter Tryz.func19, Tryz.ntmps19
  go_wp2_with fail
  go_fit (CA.out _ HB0.out); rintro e w1 ⟨A, L, C, rfl, hsl, hb1⟩
  have hbw1 := bel_trans HB0.out hb1
  have hx1 := HX0.out.bel hb1
  have hL : L ≤ 4096 := by have := hsl.len; omega
  have hlc := hsl.cap
  have hlm := hsl.max
  have hLl := hsl.len
  have HB1 := Lib.hid hb1; clear hb1
  have HBW1 := Lib.hid hbw1; clear hbw1
  have HX1 := Lib.hid hx1; clear hx1
  have HSL := Lib.hid hsl; clear hsl
  have HLL := Lib.hid hLl; clear hLl
  clear HX0
  go_wp2_with fail
  go_loopw [5, 6, 7] (fun v bv t wr => ∃ (i : Nat) (B : Option Addr) (k q : Nat), i ≤ L ∧ t = .int .i64 (i : Int) ∧ bv = .slice B k q ∧ OwnB (slR intR) 23 w1 w1.heap.size wr v ((all.take i).filter (optB cf all)) ∧ SlIs intR wr B k q (lastC cf ((all.take i).filter (optB cf all)))) (fun _ _ t _ => L - (intOf t).toNat)
  case atStart => exact ⟨0, none, 0, 0, Nat.zero_le _, rfl, rfl, OwnB.nil (Below.refl _ _) (Nat.le_refl _) (Nat.le_refl _), SlIs.nil _ _⟩
  case round =>
    obtain ⟨i, B, k, q, hi, rfl, rfl, ho, hbs⟩ := hrel
    have hbw := ho.below
    have hbx := HX1.out.bel hbw
    obtain ⟨p0, p1, p2, p3, p4, p5⟩ := pcells hbx
    by_cases hlt : i < L
    · obtain ⟨m, hm, -⟩ := HSL.out.drop hlt
      obtain ⟨ab, ao, mA1, ml1, mc1, rfl, hab, cm0, sm0⟩ := HSL.out.set hm
      have cm := (hbw.cell (p := ⟨ab, ao + i, none⟩) hab).trans cm0
      have sm := sm0.ext hbw
      have i0 : (0 : Int) ≤ (i : Int) := by omega
      have i1 : (i : Int) < (L : Int) := by omega
      have hst : (all.take (i + 1)).filter (optB cf all) = if optB cf all m then (all.take i).filter (optB cf all) ++ [m] else (all.take i).filter (optB cf all) := by
        rw [take_snoc' hm, List.filter_append]
        by_cases h1 : optB cf all m = true <;> simp [h1]
      have hopt : optB cf all m = all.all (fun x => !betB (cf x) (cf m)) := rfl
      have hlen : ((all.take i).filter (optB cf all)).length ≤ i := Nat.le_trans (List.length_filter_le _ _) (List.length_take_le _ _)
      have HBo := Lib.hid (bel_trans HBW1.out hbw)
      obtain ⟨wo, rfl⟩ : ∃ wo : World, wo = wr := ⟨_, rfl⟩
      clear p0 p1 p2 p3 p4 p5
      have HO := Lib.hid ho; clear ho
      have HBS := Lib.hid hbs; clear hbs
      have HBW := Lib.hid hbw; clear hbw
      have HBX := Lib.hid hbx; clear hbx
      have HM := Lib.hid hm; clear hm
      have CM0 := Lib.hid cm0; clear cm0
      have SM0 := Lib.hid sm0; clear sm0
      have CM := Lib.hid cm; clear cm
      have SM := Lib.hid sm; clear sm
      have HST := Lib.hid hst; clear hst
      have HOPT := Lib.hid hopt; clear hopt
      have HLEN := Lib.hid hlen; clear hlen
      go_wp2_with fail
      go_loopw [8, 9] (fun o t wr => ∃ (j : Nat), j ≤ L ∧ t = .int .i64 (j : Int) ∧ o = .bool ((all.take j).all (fun x => !betB (cf x) (cf m))) ∧ Below wo.heap.size wo wr) (fun _ t _ => L - (intOf t).toNat)
      case atStart => exact ⟨0, Nat.zero_le _, rfl, rfl, Below.refl _ _⟩
      case round =>
        obtain ⟨j, hj, rfl, rfl, hb2⟩ := hrel
        have hx2 := HBX.out.bel hb2
        obtain ⟨p0, p1, p2, p3, p4, p5⟩ := pcells hx2
        have hbw2 := bel_trans HBo.out hb2
        by_cases hlt2 : j < L
        · obtain ⟨x, hx, -⟩ := HSL.out.drop hlt2
          obtain ⟨ab2, ao2, xA1, xl1, xc1, e, hab2, cx0, sx0⟩ := HSL.out.set hx
          injection e with e
          injection e with e e2
          subst e e2
          have hb1r := bel_trans HBW.out hb2
          have cx := (hb1r.cell (p := ⟨ab, ao + j, none⟩) hab).trans cx0
          have cm := (hb1r.cell (p := ⟨ab, ao + i, none⟩) hab).trans CM0.out
          have sx := sx0.ext hb1r
          have sm := SM0.out.ext hb1r
          have j0 : (0 : Int) ≤ (j : Int) := by omega
          have j1 : (j : Int) < (L : Int) := by omega
          have hst2 := optB_take cf all m hx
          have hD := bel_trans hbw2 (Below.refl wr.heap.size wr).drew
          have hsxD := sx.ext (Below.refl wr.heap.size wr).drew
          have hAll : ∀ W, Below wr.heap.size wr W → W.cell? ⟨w.heap.size, 0, none⟩ = some (.int .i64 p.n) ∧ W.cell? ⟨w.heap.size, 1, none⟩ = some (.slice nA nl nc) ∧ W.cell? ⟨w.heap.size, 2, none⟩ = some (.slice sA sl sc) ∧ W.cell? ⟨w.heap.size, 3, none⟩ = some (.slice rA rl rc) ∧ W.cell? ⟨w.heap.size, 4, none⟩ = some (.slice mA ml mc) ∧ W.cell? ⟨ab, ao + j, none⟩ = some (.slice xA1 xl1 xc1) ∧ W.cell? ⟨ab, ao + i, none⟩ = some (.slice mA1 ml1 mc1) := fun W hb => by
            refine ⟨(hb.cell ?_).trans p0, (hb.cell ?_).trans p1, (hb.cell ?_).trans p2, (hb.cell ?_).trans p3, (hb.cell ?_).trans p4, (hb.cell ?_).trans cx, (hb.cell ?_).trans cm⟩
            · exact World.block_lt_of_cell? _ _ p0
            · exact World.block_lt_of_cell? _ _ p1
            · exact World.block_lt_of_cell? _ _ p2
            · exact World.block_lt_of_cell? _ _ p3
            · exact World.block_lt_of_cell? _ _ p4
            · exact World.block_lt_of_cell? _ _ cx
            · exact World.block_lt_of_cell? _ _ cm
          have cB := fun A l c B k q W (h1 : SlIs intR W A l c (cf x)) (h2 : SlIs intR W B k q (cf m)) => refBetter_any A l c B k q (cf x) (cf m) W h1 h2
          generalize betB (cf x) (cf m) = bb at *
          have HB2' := Lib.hid hb2
          clear p0 p1 p2 p3 p4 p5 cx cm
          have HX := Lib.hid hx; clear hx
          have CX0 := Lib.hid cx0; clear cx0
          have SX0 := Lib.hid sx0; clear sx0
          have SX := Lib.hid sx; clear sx
          have SM := Lib.hid sm; clear sm
          have HST2 := Lib.hid hst2; clear hst2
          have HD := Lib.hid hD; clear hD
          have HSXD := Lib.hid hsxD; clear hsxD
          have HALL := Lib.hid hAll; clear hAll
          have CB := Lib.hid cB; clear cB
          have HX2 := Lib.hid hx2; clear hx2
          have HBW2 := Lib.hid hbw2; clear hbw2
          have HB1R := Lib.hid hb1r; clear hb1r
          clear hb2
          cases bb with
          | true =>
            have hst2 := HST2.out
            rw [Bool.not_true, Bool.and_false] at hst2
            have HST2 := Lib.hid hst2; clear hst2
            have hmark : True := trivial
            go_wp2_with fail
            go_region_held3 (fun w' => w'.cell? ⟨w.heap.size, 0, none⟩ = some (.int .i64 p.n) ∧ w'.cell? ⟨w.heap.size, 1, none⟩ = some (.slice nA nl nc) ∧ w'.cell? ⟨w.heap.size, 2, none⟩ = some (.slice sA sl sc) ∧ w'.cell? ⟨w.heap.size, 3, none⟩ = some (.slice rA rl rc) ∧ w'.cell? ⟨w.heap.size, 4, none⟩ = some (.slice mA ml mc) ∧ w'.cell? ⟨ab, ao + j, none⟩ = some (.slice xA1 xl1 xc1) ∧ w'.cell? ⟨ab, ao + i, none⟩ = some (.slice mA1 ml1 mc1))
              (first | exact HALL.out _ (Below.refl _ _).drew | exact HALL.out _ HB5 | exact HALL.out _ HB4 | exact HALL.out _ HB3 | go_keep)
              (first
              | (go_at_call 22; clear hmark; refine (CC.out xA1 xl1 xc1 x _ HD.out HSXD.out).mono ?_; rintro e w3 ⟨A1, l1, c1, rfl, hs1, hb3⟩; have HB3 : Below wr.heap.size wr w3 := bel_trans (Below.refl _ _).drew hb3; have HS1 := Lib.hid hs1; clear hs1)
              | (go_at_call 22; refine (CC.out mA1 ml1 mc1 m _ (bel_trans HBW2.out HB3) (SM.out.ext HB3)).mono ?_; rintro e w4 ⟨A2, l2, c2, rfl, hs2, hb4⟩; have HB4 : Below wr.heap.size wr w4 := bel_trans HB3 hb4; have HS2 := Lib.hid hs2; have HS3 := Lib.hid (HS1.out.ext hb4); clear hs2)
              | (go_at_call 60; refine (CB.out _ _ _ _ _ _ _ HS3.out HS2.out).mono ?_; rintro e w5 ⟨rfl, hb5⟩; have HB5 : Below wr.heap.size wr w5 := bel_trans HB4 hb5))
            have hb6 := bel_trans HB2'.out HB5
            have HB6 := Lib.hid hb6; clear hb6
            go_wp2_with fail
            go_roundw
            case rel => exact ⟨j + 1, by omega, by go_num, by rw [HST2.out], HB6.out⟩
            case measure => simp [intOf]; omega
          | false =>
            have hst2 := HST2.out
            rw [Bool.not_false, Bool.and_true] at hst2
            have HST2 := Lib.hid hst2; clear hst2
            have hmark : True := trivial
            go_wp2_with fail
            go_region_held3 (fun w' => w'.cell? ⟨w.heap.size, 0, none⟩ = some (.int .i64 p.n) ∧ w'.cell? ⟨w.heap.size, 1, none⟩ = some (.slice nA nl nc) ∧ w'.cell? ⟨w.heap.size, 2, none⟩ = some (.slice sA sl sc) ∧ w'.cell? ⟨w.heap.size, 3, none⟩ = some (.slice rA rl rc) ∧ w'.cell? ⟨w.heap.size, 4, none⟩ = some (.slice mA ml mc) ∧ w'.cell? ⟨ab, ao + j, none⟩ = some (.slice xA1 xl1 xc1) ∧ w'.cell? ⟨ab, ao + i, none⟩ = some (.slice mA1 ml1 mc1))
              (first | exact HALL.out _ (Below.refl _ _).drew | exact HALL.out _ HB5 | exact HALL.out _ HB4 | exact HALL.out _ HB3 | go_keep)
              (first
              | (go_at_call 22; clear hmark; refine (CC.out xA1 xl1 xc1 x _ HD.out HSXD.out).mono ?_; rintro e w3 ⟨A1, l1, c1, rfl, hs1, hb3⟩; have HB3 : Below wr.heap.size wr w3 := bel_trans (Below.refl _ _).drew hb3; have HS1 := Lib.hid hs1; clear hs1)
              | (go_at_call 22; refine (CC.out mA1 ml1 mc1 m _ (bel_trans HBW2.out HB3) (SM.out.ext HB3)).mono ?_; rintro e w4 ⟨A2, l2, c2, rfl, hs2, hb4⟩; have HB4 : Below wr.heap.size wr w4 := bel_trans HB3 hb4; have HS2 := Lib.hid hs2; have HS3 := Lib.hid (HS1.out.ext hb4); clear hs2)
              | (go_at_call 60; refine (CB.out _ _ _ _ _ _ _ HS3.out HS2.out).mono ?_; rintro e w5 ⟨rfl, hb5⟩; have HB5 : Below wr.heap.size wr w5 := bel_trans HB4 hb5))
            have hb6 := bel_trans HB2'.out HB5
            have HB6 := Lib.hid hb6; clear hb6
            go_wp2_with fail
            go_roundw
            case rel => exact ⟨j + 1, by omega, by go_num, by rw [HST2.out], HB6.out⟩
            case measure => simp [intOf]; omega
        · have hjl : all.take j = all := List.take_of_length_le (by have := HLL.out; omega)
          rw [hjl, ← HOPT.out]
          have hst := HST.out
          have ho2 := HO.out.bel hb2
          have hbs2 := HBS.out.ext hb2
          have hb1r := bel_trans HBW.out hb2
          have cm := (hb1r.cell (p := ⟨ab, ao + i, none⟩) hab).trans CM0.out
          cases hopv : optB cf all m with
          | false =>
            rw [hopv, if_neg (by simp)] at hst
            rw [← hst] at ho2 hbs2
            have HO2 := Lib.hid ho2; clear ho2
            have HBS2 := Lib.hid hbs2; clear hbs2
            have HBW2 := Lib.hid hbw2; clear hbw2
            have HX2 := Lib.hid hx2; clear hx2
            have HB1R := Lib.hid hb1r; clear hb1r
            have HST := Lib.hid hst; clear hst
            have HOPV := Lib.hid hopv; clear hopv
            have HB2 := Lib.hid hb2; clear hb2
            have HJL := Lib.hid hjl; clear hjl
            clear cm
            go_wp2_with fail
            go_roundw
            case rel => exact ⟨i + 1, _, _, _, by omega, by go_num, rfl, HO2.out, HBS2.out⟩
            case measure => simp [intOf]; omega
          | true =>
            rw [hopv, if_pos rfl] at hst
            obtain ⟨v1, w3, hrun, own1, hg1, hat1⟩ := ho2.app1 ety_set [.slice mA1 ml1 mc1] m ⟨_, _, _, rfl, SM0.out⟩ (by have := HLEN.out; omega) 31
            have hx3 := HX1.out.bel own1.below
            have cm3 := (own1.below.cell (p := ⟨ab, ao + i, none⟩) hab).trans CM0.out
            have HO2 := Lib.hid ho2; clear ho2
            have HBS2 := Lib.hid hbs2; clear hbs2
            have HBW2 := Lib.hid hbw2; clear hbw2
            have HX2 := Lib.hid hx2; clear hx2
            have HB1R := Lib.hid hb1r; clear hb1r
            have HST := Lib.hid hst; clear hst
            have HOPV := Lib.hid hopv; clear hopv
            have HB2 := Lib.hid hb2; clear hb2
            have HJL := Lib.hid hjl; clear hjl
            have HRUN := Lib.hid hrun; clear hrun
            have OWN1 := Lib.hid own1; clear own1
            have HG1 := Lib.hid hg1; clear hg1
            have HAT1 := Lib.hid hat1; clear hat1
            have HX3 := Lib.hid hx3; clear hx3
            go_wp2_with (at_builtin; refine wpList_append_run rfl _ _ _ rfl _ _ rfl rfl _ _ HRUN.out ?_)
            clear p0 p1 p2 p3 p4 p5 cm
            obtain ⟨p0, p1, p2, p3, p4, p5⟩ := pcells HX3.out
            refine wp_region_tail 5 [(⟨w.heap.size, 0, none⟩, .int .i64 p.n), (⟨w.heap.size, 1, none⟩, .slice nA nl nc), (⟨w.heap.size, 2, none⟩, .slice sA sl sc), (⟨w.heap.size, 3, none⟩, .slice rA rl rc), (⟨w.heap.size, 4, none⟩, .slice mA ml mc), (⟨ab, ao + i, none⟩, .slice mA1 ml1 mc1)] (by kernel_rfl) (by kernel_rfl) (by simp [go_sem, *]) ?_
            intro X hk hX; simp only [List.forall_mem_cons] at hk; obtain ⟨kt0, kt1, kt2, kt3, kt4, kt5, kz⟩ := hk; clear kz
            simp only [List.take_succ_cons, List.take_zero, List.drop_succ_cons, List.drop_zero]
            repeat go_big_quiet_step (fail)
            refine wpQuiet_nil ?_
            have hbX : Below w1.heap.size w1 X := by rw [hX]; exact bel_trans OWN1.out.below (Below.refl _ _).drew
            have ownX : OwnB (slR intR) 23 w1 w1.heap.size X v1 ((all.take i).filter (optB cf all) ++ [m]) := by rw [hX]; exact OWN1.out.bel (Below.refl _ _).drew
            clear hX
            have HBX := Lib.hid hbX; clear hbX
            have OWNX := Lib.hid ownX; clear ownX
            go_wp2_with fail
            go_fit (CC.out mA1 ml1 mc1 m _ (bel_trans HBW1.out HBX.out) (SM0.out.ext HBX.out)); rintro e w4 ⟨cA1, cl1, cc1, rfl, hc1, hb4⟩
            have ho4 := OWNX.out.bel hb4
            have hlast := lastC_snoc cf ((all.take i).filter (optB cf all)) m
            rw [← HST.out] at ho4 hlast
            rw [← hlast] at hc1
            clear kt0 kt1 kt2 kt3 kt4 kt5 p0 p1 p2 p3 p4 p5 cm3
            have HC1 := Lib.hid hc1; clear hc1
            have HB4 := Lib.hid hb4; clear hb4
            have HO4 := Lib.hid ho4; clear ho4
            have HLAST := Lib.hid hlast; clear hlast
            go_wp2_with fail
            go_roundw
            case rel => exact ⟨i + 1, _, _, _, by omega, by go_num, rfl, HO4.out, HC1.out⟩
            case measure => simp [intOf]; omega
    · have hil : all.take i = all := List.take_of_length_le (by have := HLL.out; omega)
      rw [hil] at ho hbs
      have hlen : (all.filter (optB cf all)).length ≤ 4096 := Nat.le_trans (List.length_filter_le _ _) hal
      obtain ⟨vA, vc, rfl, hsv⟩ := ho.sl (by omega)
      have hbf := bel_trans HBW1.out hbw
      have HO := Lib.hid ho; clear ho
      have HBS := Lib.hid hbs; clear hbs
      have HBW := Lib.hid hbw; clear hbw
      have HBX := Lib.hid hbx; clear hbx
      have HSV := Lib.hid hsv; clear hsv
      have HBF := Lib.hid hbf; clear hbf
      have HIL := Lib.hid hil; clear hil
      have HLEN := Lib.hid hlen; clear hlen
      go_wp2_with fail
      go_ret2
      exact ⟨_, _, _, _, _, _, rfl, HSV.out, HBS.out, HBF.out⟩
end Go.Proofs.YtamdammaeaeilaaGreat

/- The contract of gprog.Valid. -/
import Derived.Test.YtcbkkjcleiibfaaGp4
import Derived.Test.YtcbkkjcleiibfaaLater
namespace Go.Proofs.Ytcbkkjcleiibfaa
open Go.RowKit

def rulesE (n : Int) : List GRule → Int
  | [] => 0
  | r :: rs => if ruleE r n = 0 then rulesE n rs else ruleE r n
def minOk (n : Int) (m : GMin) : Bool := ordB n m.lits && wtB m.w m.lits.length && decide (-2147483647 ≤ m.level) && decide (m.level ≤ 2147483647)
def minGoE (n : Int) (prev : Option GMin) : List GMin → Bool
  | [] => true
  | m :: r => minOk n m && (match prev with | none => true | some l => decide (m.level < l.level)) && minGoE n (some m) r
theorem minGoE_cons (n : Int) (prev : Option GMin) (m : GMin) (r : List GMin) : minGoE n prev (m :: r) = (minOk n m && (match prev with | none => true | some l => decide (m.level < l.level)) && minGoE n (some m) r) := rfl
def validE (p : GProg) : Int :=
  if namedB p = false then 170
  else if 40000 < p.rules.length then 171
  else if rulesE p.n p.rules ≠ 0 then rulesE p.n p.rules
  else if 8 < p.min.length then 175
  else if minGoE p.n none p.min = false then 175
  else 0
theorem namedB_n {p : GProg} (h : namedB p = true) : 0 ≤ p.n ∧ p.n ≤ 4000 := by
  simp [namedB] at h; exact ⟨h.1.1.1.1, h.1.1.1.2⟩

set_option maxRecDepth 100000 in
set_option maxHeartbeats 4000000 in
theorem valid_any (p : GProg) (nA : Option Addr) (nl nc : Nat) (sA : Option Addr) (sl sc : Nat) (rA : Option Addr) (rl rc : Nat) (mA : Option Addr) (ml mc : Nat) (w : World) (hp : ProgIn w p nA nl nc sA sl sc rA rl rc mA ml mc) :
    Calls Try.prog 17 #[.agg #[.int .i64 p.n, .slice nA nl nc, .slice sA sl sc, .slice rA rl rc, .slice mA ml mc]] w fun e w' => e = .returned (.int .i64 (validE p)) ∧ Below w.heap.size w w' := by
  have hrc := hp.rules.cap
  have hrm := hp.rules.max
  have hmc := hp.min.cap
  have hmm := hp.min.max
  have e1 := Lib.hid hp.rules.len
  have e2 := Lib.hid hp.min.len
  have HP := Lib.hid hp; clear hp
  by_cases hnm : namedB p = true
  · have hn := namedB_n hnm
    by_cases h40 : 40000 < rl
    · go_enter Try.func17, Try.ntmps17
      go_wp2_with fail
      go_fit (named_any p _ _ _ _ _ _ _ _ _ _ _ _ _ (HP.out.ext (bel_alloc _ _))); rintro e w1 ⟨rfl, hb1⟩
      have hc1 := bcell hb1
      have HB1 := Lib.hid (bel_trans (bel_alloc _ _) hb1)
      clear hb1
      go_wp2_with fail
      go_ret
      exact ⟨ret_int (by unfold validE; rw [hnm, ← e1.out]; simp [h40]), HB1.out⟩
    · go_enter Try.func17, Try.ntmps17
      go_wp2_with fail
      go_fit (named_any p _ _ _ _ _ _ _ _ _ _ _ _ _ (HP.out.ext (bel_alloc _ _))); rintro e w1 ⟨rfl, hb1⟩
      have hc1 := bcell hb1
      have hz1 := bsz hb1
      have HB1 := Lib.hid (bel_trans (bel_alloc _ _) hb1)
      clear hb1
      go_wp2_with fail
      have hfin : validE p = (if rulesE p.n p.rules ≠ 0 then rulesE p.n p.rules else if 8 < p.min.length then 175 else if minGoE p.n none p.min = false then 175 else 0) := by
        unfold validE; rw [hnm, ← e1.out, if_neg (by simp), if_neg (by omega)]
      have HFIN := Lib.hid hfin; clear hfin
      have c0 : w1.cell? ⟨w.heap.size, 0, none⟩ = some (.int .i64 p.n) := by rw [hc1 _ _ (by simp)]; simp
      have c4 : w1.cell? ⟨w.heap.size, 4, none⟩ = some (.slice mA ml mc) := by rw [hc1 _ _ (by simp)]; simp
      clear hc1
      have C0 := Lib.hid c0; clear c0
      have C4 := Lib.hid c4; clear c4
      go_loopw [20] (fun i wr => ∃ (k : Nat), k ≤ rl ∧ i = .int .i64 k ∧ Below w1.heap.size w1 wr ∧ rulesE p.n p.rules = rulesE p.n (p.rules.drop k)) (fun i _ => rl - (intOf i).toNat)
      case atStart => exact ⟨0, Nat.zero_le _, rfl, Below.refl _ _, rfl⟩
      case round =>
        obtain ⟨k, hk, rfl, hbw, hs⟩ := hrel
        have H1 := Lib.hid (HP.out.rules.ext (bel_trans HB1.out hbw))
        have d0 : wr.cell? ⟨w.heap.size, 0, none⟩ = some (.int .i64 p.n) := (bcell hbw _ _ hz1).trans C0.out
        have d4 : wr.cell? ⟨w.heap.size, 4, none⟩ = some (.slice mA ml mc) := (bcell hbw _ _ hz1).trans C4.out
        have hzr : w.heap.size < wr.heap.size := Nat.lt_of_lt_of_le hz1 hbw.size
        have HB := Lib.hid (bel_trans HB1.out hbw)
        have HBW := Lib.hid hbw; clear hbw
        have HS := Lib.hid hs; clear hs
        by_cases hlt : k < rl
        · obtain ⟨r, hx, hd⟩ := H1.out.drop hlt
          obtain ⟨b, off, hA, hl, hc, bA, bl, bc, wA, wl, wc, rfl, _, f0, f1, f2, f3, f4, f5, g1, g2, g3, g4⟩ := H1.out.rule hx
          have HR := Lib.hid (show RuleIn wr r hA hl hc bA bl bc wA wl wc from ⟨g1, g2, g3, g4⟩)
          clear g1 g2 g3 g4
          have HX := Lib.hid hx; clear hx
          have HD := Lib.hid hd; clear hd
          by_cases hre : ruleE r p.n = 0
          · have hre2 : (ruleE r p.n != 0) = false := by simpa using hre
            have HRE := Lib.hid hre; clear hre
            go_wp2_with fail
            go_fit (rule_any r _ _ _ _ _ _ _ _ _ p.n _ (HR.out.ext (bel_alloc _ _))); rintro e w2 ⟨rfl, hb2⟩
            have HB2 := Lib.hid (bel_trans HBW.out (bel_trans (bel_alloc _ _) hb2))
            clear hb2
            go_wp2_with fail
            go_roundw
            case rel => exact ⟨k + 1, by omega, by go_num, HB2.out, by rw [HS.out, HD.out, rulesE, if_pos HRE.out]⟩
            case measure => simp [intOf]; omega
          · have hre2 : (ruleE r p.n != 0) = true := by simpa using hre
            have HRE := Lib.hid hre; clear hre
            go_wp2_with fail
            go_fit (rule_any r _ _ _ _ _ _ _ _ _ p.n _ (HR.out.ext (bel_alloc _ _))); rintro e w2 ⟨rfl, hb2⟩
            have HB2 := Lib.hid (bel_trans HB.out (bel_trans (bel_alloc _ _) hb2))
            clear hb2
            go_wp2_with fail
            go_ret
            exact ⟨ret_int (by rw [HFIN.out, HS.out, HD.out, rulesE, if_neg HRE.out, if_pos HRE.out]), HB2.out⟩
        · have hfin2 : validE p = (if 8 < p.min.length then 175 else if minGoE p.n none p.min = false then 175 else 0) := by
            rw [HFIN.out, HS.out, H1.out.stop (by omega)]; rfl
          have HFIN2 := Lib.hid hfin2; clear hfin2
          by_cases h8 : 8 < ml
          · go_wp2_with fail
            go_ret
            exact ⟨ret_int (by rw [HFIN2.out, ← e2.out, if_pos h8]), HB.out⟩
          · go_wp2_with fail
            have hfin3 : validE p = (if minGoE p.n none p.min = false then 175 else 0) := by rw [HFIN2.out, ← e2.out, if_neg h8]
            have D0 := Lib.hid d0
            have D4 := Lib.hid d4
            clear d0 d4
            have HFIN3 := Lib.hid hfin3; clear hfin3
            obtain ⟨wo, rfl⟩ : ∃ wo : World, wo = wr := ⟨_, rfl⟩
            go_loopw [39] (fun i wr' => ∃ (k : Nat), k ≤ ml ∧ i = .int .i64 k ∧ Below wo.heap.size wo wr' ∧ minGoE p.n none p.min = minGoE p.n (prevAt p.min k) (p.min.drop k)) (fun i _ => ml - (intOf i).toNat)
            case atStart => exact ⟨0, Nat.zero_le _, rfl, Below.refl _ _, rfl⟩
            case round =>
              obtain ⟨j, hj, rfl, hbw2, hs2⟩ := hrel
              have H2 := Lib.hid (HP.out.min.ext (bel_trans HB.out hbw2))
              have d0 : wr.cell? ⟨w.heap.size, 0, none⟩ = some (.int .i64 p.n) := (bcell hbw2 _ _ hzr).trans D0.out
              have d4 : wr.cell? ⟨w.heap.size, 4, none⟩ = some (.slice mA ml mc) := (bcell hbw2 _ _ hzr).trans D4.out
              have hz2 : w.heap.size < wr.heap.size := Nat.lt_of_lt_of_le hzr hbw2.size
              have hz4 : w.heap.size < wr.heap.size + 1 := by omega
              have HBR := Lib.hid (bel_trans HB.out hbw2)
              have HBW2 := Lib.hid hbw2; clear hbw2
              have HS2 := Lib.hid hs2; clear hs2
              by_cases hlt2 : j < ml
              · obtain ⟨m, hx, hd⟩ := H2.out.drop hlt2
                obtain ⟨b, off, bA, bl, bc, wA, wl, wc, rfl, hbz, f0, f1, f2, g2, g3, g4⟩ := H2.out.min hx
                have hbl := Lib.hid g3.len
                have HX := Lib.hid hx; clear hx
                have HD := Lib.hid hd; clear hd
                have G2 := Lib.hid g2; clear g2
                have G3 := Lib.hid g3; clear g3
                have G4 := Lib.hid g4; clear g4
                have hbl2 := Lib.hid hbl
                clear hbl
                by_cases ho : ordB p.n m.lits = true
                · by_cases hw : wtB m.w bl = true
                  · by_cases hl1 : m.level < -2147483647
                    · have q1 : decide (m.level < -2147483647) = true := decide_eq_true hl1
                      go_wp2_with fail
                      refine wp_region_later [(⟨w.heap.size, 0, none⟩, .int .i64 p.n), (⟨wr.heap.size, 0, none⟩, .int .i64 m.level), (⟨wr.heap.size, 1, none⟩, .slice bA bl bc), (⟨wr.heap.size, 2, none⟩, .slice wA wl wc)] (by kernel_rfl) (by kernel_rfl) (by simp [go_sem, *]) ?_
                      intro hk; simp only [List.forall_mem_cons] at hk; obtain ⟨k0, k1, k2, k3, k9⟩ := hk; clear k9
                      repeat go_big_quiet_step ((first
                        | (go_at_call 35; exact Calls.later (ordered_any _ _ _ _ _ _ (G3.out.ext (bel_trans (bel_alloc _ _) (Later.h _))) (by omega) (by omega)))
                        | (go_at_call 36; exact Calls.later_same (weights_any _ _ _ _ _ _ (G4.out.ext (bel_trans (bel_alloc _ _) (Later.h _)))))))
                      refine wpQuiet_nil ?_
                      rintro w2 ⟨u2, rfl⟩
                      have HU := Lib.hid (bel_trans (bel_alloc _ _) u2.h)
                      clear k0 k1 k2 k3
                      go_wp2_with fail
                      go_ret
                      exact ⟨ret_int (by rw [HFIN3.out, HS2.out, HD.out, minGoE_cons]; have : ¬ -2147483647 ≤ m.level := (by omega); simp [minOk, this]), bel_trans HBR.out HU.out⟩
                    · have q1 : decide (m.level < -2147483647) = false := decide_eq_false hl1
                      by_cases hl2 : 2147483647 < m.level
                      · have q2 : decide (2147483647 < m.level) = true := decide_eq_true hl2
                        go_wp2_with fail
                        refine wp_region_later [(⟨w.heap.size, 0, none⟩, .int .i64 p.n), (⟨wr.heap.size, 0, none⟩, .int .i64 m.level), (⟨wr.heap.size, 1, none⟩, .slice bA bl bc), (⟨wr.heap.size, 2, none⟩, .slice wA wl wc)] (by kernel_rfl) (by kernel_rfl) (by simp [go_sem, *]) ?_
                        intro hk; simp only [List.forall_mem_cons] at hk; obtain ⟨k0, k1, k2, k3, k9⟩ := hk; clear k9
                        repeat go_big_quiet_step ((first
                          | (go_at_call 35; exact Calls.later (ordered_any _ _ _ _ _ _ (G3.out.ext (bel_trans (bel_alloc _ _) (Later.h _))) (by omega) (by omega)))
                          | (go_at_call 36; exact Calls.later_same (weights_any _ _ _ _ _ _ (G4.out.ext (bel_trans (bel_alloc _ _) (Later.h _)))))))
                        refine wpQuiet_nil ?_
                        rintro w2 ⟨u2, rfl⟩
                        have HU := Lib.hid (bel_trans (bel_alloc _ _) u2.h)
                        clear k0 k1 k2 k3
                        go_wp2_with fail
                        go_ret
                        exact ⟨ret_int (by rw [HFIN3.out, HS2.out, HD.out, minGoE_cons]; have : ¬ m.level ≤ 2147483647 := (by omega); simp [minOk, this]), bel_trans HBR.out HU.out⟩
                      · have q2 : decide (2147483647 < m.level) = false := decide_eq_false hl2
                        have hok : minOk p.n m = true := by
                          have h1 : -2147483647 ≤ m.level := by omega
                          have h2 : m.level ≤ 2147483647 := by omega
                          have hw2 : wtB m.w m.lits.length = true := hbl2.out ▸ hw
                          simp [minOk, ho, hw2, h1, h2]
                        have HOK := Lib.hid hok
                        clear hok
                        by_cases hj0 : j = 0
                        · have q3 : decide (0 < (j : Int)) = false := decide_eq_false (by omega)
                          have q5 : decide (0 < j) = false := decide_eq_false (by omega)
                          have HJ0 := Lib.hid hj0
                          clear hj0
                          go_wp2_with fail
                          refine wp_region_later [(⟨w.heap.size, 0, none⟩, .int .i64 p.n), (⟨wr.heap.size, 0, none⟩, .int .i64 m.level), (⟨wr.heap.size, 1, none⟩, .slice bA bl bc), (⟨wr.heap.size, 2, none⟩, .slice wA wl wc)] (by kernel_rfl) (by kernel_rfl) (by simp [go_sem, *]) ?_
                          intro hk; simp only [List.forall_mem_cons] at hk; obtain ⟨k0, k1, k2, k3, k9⟩ := hk; clear k9
                          repeat go_big_quiet_step ((first
                            | (go_at_call 35; exact Calls.later (ordered_any _ _ _ _ _ _ (G3.out.ext (bel_trans (bel_alloc _ _) (Later.h _))) (by omega) (by omega)))
                            | (go_at_call 36; exact Calls.later_same (weights_any _ _ _ _ _ _ (G4.out.ext (bel_trans (bel_alloc _ _) (Later.h _)))))))
                          refine wpQuiet_nil ?_
                          rintro w2 ⟨u2, rfl⟩
                          have HU := Lib.hid (bel_trans (bel_alloc _ _) u2.h)
                          clear k0 k1 k2 k3
                          go_wp2_with fail
                          go_roundw
                          case rel => exact ⟨j + 1, by omega, by go_num, bel_trans HBW2.out HU.out, by rw [HS2.out, HD.out, minGoE_cons, prevAt_succ, HX.out]; rw [HOK.out, HJ0.out]; rfl⟩
                          case measure => simp [intOf]; omega
                        · obtain ⟨i, rfl⟩ : ∃ i, j = i + 1 := ⟨j - 1, by omega⟩
                          have q3 : decide (0 < (i : Int) + 1) = true := decide_eq_true (by omega)
                          have q5 : decide (0 < i + 1) = true := decide_eq_true (by omega)
                          have q4 : IntKind.i64.wrap ((i : Int) + 1 - 1) = i := by rw [IntWalk.i64_in _ (by omega)]; omega
                          obtain ⟨pl, hpx, _⟩ := H2.out.drop (k := i) (by omega)
                          obtain ⟨b', off', _, _, _, _, _, _, he, _, p0, _, _, _, _, _⟩ := H2.out.min hpx
                          cases he
                          have HPX := Lib.hid hpx; clear hpx
                          by_cases hlv : pl.level ≤ m.level
                          · have q6 : decide (pl.level ≤ m.level) = true := decide_eq_true hlv
                            go_wp2_with fail
                            refine wp_region_later [(⟨w.heap.size, 0, none⟩, .int .i64 p.n), (⟨wr.heap.size, 0, none⟩, .int .i64 m.level), (⟨wr.heap.size, 1, none⟩, .slice bA bl bc), (⟨wr.heap.size, 2, none⟩, .slice wA wl wc), (⟨w.heap.size, 4, none⟩, .slice (some ⟨b, off, none⟩) ml mc), (⟨b, off + i * 3, none⟩, .int .i64 pl.level)] (by kernel_rfl) (by kernel_rfl) (by simp [go_sem, *]) ?_
                            intro hk; simp only [List.forall_mem_cons] at hk; obtain ⟨k0, k1, k2, k3, k4, k5, k9⟩ := hk; clear k9
                            repeat go_big_quiet_step ((first
                              | (go_at_call 35; exact Calls.later (ordered_any _ _ _ _ _ _ (G3.out.ext (bel_trans (bel_alloc _ _) (Later.h _))) (by omega) (by omega)))
                              | (go_at_call 36; exact Calls.later_same (weights_any _ _ _ _ _ _ (G4.out.ext (bel_trans (bel_alloc _ _) (Later.h _)))))))
                            refine wpQuiet_nil ?_
                            rintro w2 ⟨u2, rfl⟩
                            have HU := Lib.hid (bel_trans (bel_alloc _ _) u2.h)
                            clear k0 k1 k2 k3 k4 k5
                            go_wp2_with fail
                            go_ret
                            exact ⟨ret_int (by rw [HFIN3.out, HS2.out, HD.out, minGoE_cons, prevAt_succ, HPX.out]; have : ¬ m.level < pl.level := (by omega); simp [this]), bel_trans HBR.out HU.out⟩
                          · have q6 : decide (pl.level ≤ m.level) = false := decide_eq_false hlv
                            go_wp2_with fail
                            refine wp_region_later [(⟨w.heap.size, 0, none⟩, .int .i64 p.n), (⟨wr.heap.size, 0, none⟩, .int .i64 m.level), (⟨wr.heap.size, 1, none⟩, .slice bA bl bc), (⟨wr.heap.size, 2, none⟩, .slice wA wl wc), (⟨w.heap.size, 4, none⟩, .slice (some ⟨b, off, none⟩) ml mc), (⟨b, off + i * 3, none⟩, .int .i64 pl.level)] (by kernel_rfl) (by kernel_rfl) (by simp [go_sem, *]) ?_
                            intro hk; simp only [List.forall_mem_cons] at hk; obtain ⟨k0, k1, k2, k3, k4, k5, k9⟩ := hk; clear k9
                            repeat go_big_quiet_step ((first
                              | (go_at_call 35; exact Calls.later (ordered_any _ _ _ _ _ _ (G3.out.ext (bel_trans (bel_alloc _ _) (Later.h _))) (by omega) (by omega)))
                              | (go_at_call 36; exact Calls.later_same (weights_any _ _ _ _ _ _ (G4.out.ext (bel_trans (bel_alloc _ _) (Later.h _)))))))
                            refine wpQuiet_nil ?_
                            rintro w2 ⟨u2, rfl⟩
                            have HU := Lib.hid (bel_trans (bel_alloc _ _) u2.h)
                            clear k0 k1 k2 k3 k4 k5
                            go_wp2_with fail
                            go_roundw
                            case rel => exact ⟨i + 1 + 1, by omega, by go_num, bel_trans HBW2.out HU.out, by rw [HS2.out, HD.out, minGoE_cons, prevAt_succ, prevAt_succ, HX.out, HPX.out, HOK.out]; have : m.level < pl.level := (by omega); simp [this]⟩
                            case measure => simp [intOf]; omega
                  · have hwf : wtB m.w bl = false := by simpa using hw
                    clear hw
                    go_wp2_with fail
                    refine wp_region_later [(⟨w.heap.size, 0, none⟩, .int .i64 p.n), (⟨wr.heap.size, 0, none⟩, .int .i64 m.level), (⟨wr.heap.size, 1, none⟩, .slice bA bl bc), (⟨wr.heap.size, 2, none⟩, .slice wA wl wc)] (by kernel_rfl) (by kernel_rfl) (by simp [go_sem, *]) ?_
                    intro hk; simp only [List.forall_mem_cons] at hk; obtain ⟨k0, k1, k2, k3, k9⟩ := hk; clear k9
                    repeat go_big_quiet_step ((first
                      | (go_at_call 35; exact Calls.later (ordered_any _ _ _ _ _ _ (G3.out.ext (bel_trans (bel_alloc _ _) (Later.h _))) (by omega) (by omega)))
                      | (go_at_call 36; exact Calls.later_same (weights_any _ _ _ _ _ _ (G4.out.ext (bel_trans (bel_alloc _ _) (Later.h _)))))))
                    refine wpQuiet_nil ?_
                    rintro w2 ⟨u2, rfl⟩
                    have HU := Lib.hid (bel_trans (bel_alloc _ _) u2.h)
                    clear k0 k1 k2 k3
                    go_wp2_with fail
                    go_ret
                    exact ⟨ret_int (by rw [HFIN3.out, HS2.out, HD.out, minGoE_cons]; have hw2 : wtB m.w m.lits.length = false := hbl2.out ▸ hwf; simp [minOk, hw2]), bel_trans HBR.out HU.out⟩
                · have hof : ordB p.n m.lits = false := by simpa using ho
                  clear ho
                  go_wp2_with fail
                  refine wp_region_later [(⟨w.heap.size, 0, none⟩, .int .i64 p.n), (⟨wr.heap.size, 0, none⟩, .int .i64 m.level), (⟨wr.heap.size, 1, none⟩, .slice bA bl bc), (⟨wr.heap.size, 2, none⟩, .slice wA wl wc)] (by kernel_rfl) (by kernel_rfl) (by simp [go_sem, *]) ?_
                  intro hk; simp only [List.forall_mem_cons] at hk; obtain ⟨k0, k1, k2, k3, k9⟩ := hk; clear k9
                  repeat go_big_quiet_step ((first
                    | (go_at_call 35; exact Calls.later (ordered_any _ _ _ _ _ _ (G3.out.ext (bel_trans (bel_alloc _ _) (Later.h _))) (by omega) (by omega)))
                    | (go_at_call 36; exact Calls.later_same (weights_any _ _ _ _ _ _ (G4.out.ext (bel_trans (bel_alloc _ _) (Later.h _)))))))
                  refine wpQuiet_nil ?_
                  rintro w2 ⟨u2, rfl⟩
                  have HU := Lib.hid (bel_trans (bel_alloc _ _) u2.h)
                  clear k0 k1 k2 k3
                  go_wp2_with fail
                  go_ret
                  exact ⟨ret_int (by rw [HFIN3.out, HS2.out, HD.out, minGoE_cons]; simp [minOk, hof]), bel_trans HBR.out HU.out⟩
              · go_wp2_with fail
                go_ret
                exact ⟨ret_int (by rw [HFIN3.out, HS2.out, H2.out.stop (by omega)]; rfl), HBR.out⟩
  · have hnf : namedB p = false := by simpa using hnm
    clear hnm
    go_enter Try.func17, Try.ntmps17
    go_wp2_with fail
    go_fit (named_any p _ _ _ _ _ _ _ _ _ _ _ _ _ (HP.out.ext (bel_alloc _ _))); rintro e w1 ⟨rfl, hb1⟩
    have HB1 := Lib.hid (bel_trans (bel_alloc _ _) hb1)
    clear hb1
    go_wp2_with fail
    go_ret
    exact ⟨ret_int (by unfold validE; rw [hnf]; rfl), HB1.out⟩
end Go.Proofs.Ytcbkkjcleiibfaa

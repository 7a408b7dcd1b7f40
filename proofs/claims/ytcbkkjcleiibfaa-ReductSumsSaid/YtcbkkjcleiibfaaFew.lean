/- The contract of ostlerlaw17.Few. -/
import Derived.Test.YtcbkkjcleiibfaaGp3
namespace Go.Proofs.Ytcbkkjcleiibfaa
open Go.RowKit

def fewB (p : GProg) : Bool :=
  decide (p.n ≤ 12) && decide (p.names.length ≤ 12) && decide (p.shown.length ≤ 12) && decide (p.rules.length ≤ 16) && decide (p.min.length ≤ 6) &&
    (p.names.all (fun s => decide (s.size ≤ 40)) && (p.rules.all (fun r => decide (r.head.length + r.body.length + r.w.length ≤ 36)) && p.min.all (fun m => decide (m.lits.length + m.w.length ≤ 24))))

set_option maxRecDepth 100000 in
set_option maxHeartbeats 4000000 in
theorem few_any (p : GProg) (nA : Option Addr) (nl nc : Nat) (sA : Option Addr) (sl sc : Nat) (rA : Option Addr) (rl rc : Nat) (mA : Option Addr) (ml mc : Nat) (w : World) (hp : ProgIn w p nA nl nc sA sl sc rA rl rc mA ml mc) :
    Calls Try.prog 16 #[.agg #[.int .i64 p.n, .slice nA nl nc, .slice sA sl sc, .slice rA rl rc, .slice mA ml mc]] w fun e w' => e = .returned (.bool (fewB p)) ∧ Below w.heap.size w w' := by
  have e1 := Lib.hid hp.names.len
  have e2 := Lib.hid hp.shown.len
  have e3 := Lib.hid hp.rules.len
  have e4 := Lib.hid hp.min.len
  have HP := Lib.hid hp; clear hp
  by_cases h5 : p.n ≤ 12 ∧ nl ≤ 12 ∧ sl ≤ 12 ∧ rl ≤ 16 ∧ ml ≤ 6
  · obtain ⟨h1, h2, h3, h4, h5⟩ := h5
    have hfin : fewB p = (p.names.all (fun s => decide (s.size ≤ 40)) && (p.rules.all (fun r => decide (r.head.length + r.body.length + r.w.length ≤ 36)) && p.min.all (fun m => decide (m.lits.length + m.w.length ≤ 24)))) := by
      unfold fewB; rw [← e1.out, ← e2.out, ← e3.out, ← e4.out]; simp [h1, h2, h3, h4, h5]
    have HFIN := Lib.hid hfin; clear hfin
    go_enter Try.func16, Try.ntmps16
    go_wp2
    have hnm := HP.out.names.max
    have hnc := HP.out.names.cap
    go_loop [39] (fun i => ∃ k : Nat, k ≤ nl ∧ i = .int .i64 k ∧ p.names.all (fun s => decide (s.size ≤ 40)) = (p.names.drop k).all (fun s => decide (s.size ≤ 40))) (fun i => nl - (intOf i).toNat)
    case atStart => exact ⟨0, Nat.zero_le _, rfl, rfl⟩
    case round =>
      obtain ⟨k, hk, rfl, hs⟩ := hrel
      have HS := Lib.hid hs; clear hs
      by_cases hlt : k < nl
      · obtain ⟨x, hx, hd⟩ := HP.out.names.drop hlt
        obtain ⟨b, off, rfl, hbz, hcell, hsm⟩ := HP.out.names.str hx
        have HX := Lib.hid hx; clear hx
        have HD := Lib.hid hd; clear hd
        by_cases h6 : 40 < x.size
        · go_wp2
          go_ret
          exact ⟨ret_bool (by rw [HFIN.out, HS.out, HD.out, List.all_cons, decide_eq_false (by omega)]; rfl), bel_alloc _ _⟩
        · go_wp2
          go_round
          case rel => exact ⟨k + 1, by omega, by go_num, by rw [HS.out, HD.out, List.all_cons, decide_eq_true (by omega), Bool.true_and]⟩
          case measure => simp [intOf]; omega
      · have hfin2 : fewB p = (p.rules.all (fun r => decide (r.head.length + r.body.length + r.w.length ≤ 36)) && p.min.all (fun m => decide (m.lits.length + m.w.length ≤ 24))) := by
          rw [HFIN.out, HS.out, HP.out.names.stop (by omega)]; rfl
        have HFIN2 := Lib.hid hfin2; clear hfin2
        have hrm := HP.out.rules.max
        have hrc := HP.out.rules.cap
        go_wp2
        generalize hWW : w.alloc (.cells #[.int .i64 p.n, .slice nA nl nc, .slice sA sl sc, .slice rA rl rc, .slice mA ml mc] 36) = W0 at *
        have hB0 : Below w.heap.size w W0 := by rw [← hWW]; exact bel_alloc _ _
        have hz0 : w.heap.size < W0.heap.size := by rw [← hWW]; simp
        have c4 : W0.cell? ⟨w.heap.size, 4, none⟩ = some (.slice mA ml mc) := by rw [← hWW]; simp
        clear hWW
        have HB0 := Lib.hid hB0; clear hB0
        have C4 := Lib.hid c4; clear c4
        go_loopw [50] (fun i wr => ∃ k : Nat, k ≤ rl ∧ i = .int .i64 k ∧ Below W0.heap.size W0 wr ∧ p.rules.all (fun r => decide (r.head.length + r.body.length + r.w.length ≤ 36)) = (p.rules.drop k).all (fun r => decide (r.head.length + r.body.length + r.w.length ≤ 36))) (fun i _ => rl - (intOf i).toNat)
        case atStart => exact ⟨0, Nat.zero_le _, rfl, Below.refl _ _, rfl⟩
        case round =>
          obtain ⟨k, hk, rfl, hbw, hs⟩ := hrel
          have H1 := Lib.hid (HP.out.rules.ext (bel_trans HB0.out hbw))
          have HBW := Lib.hid hbw
          have d4 : wr.cell? ⟨w.heap.size, 4, none⟩ = some (.slice mA ml mc) := (bcell hbw _ _ hz0).trans C4.out
          have hzr : w.heap.size < wr.heap.size := Nat.lt_of_lt_of_le hz0 hbw.size
          clear hbw
          have HS := Lib.hid hs; clear hs
          by_cases hlt : k < rl
          · obtain ⟨r, hx, hd⟩ := H1.out.drop hlt
            obtain ⟨b, off, hA, hl, hc, bA, bl, bc, wA, wl, wc, rfl, _, f0, f1, f2, f3, f4, f5, g1, g2, g3, g4⟩ := H1.out.rule hx
            have s1 := g1.small
            have s2 := g3.small
            have s3 := g4.small
            have l1 := Lib.hid g1.len
            have l2 := Lib.hid g3.len
            have l3 := Lib.hid g4.len
            have HX := Lib.hid hx; clear hx
            have HD := Lib.hid hd; clear hd
            have G1 := Lib.hid g1; clear g1
            have G2 := Lib.hid g2; clear g2
            have G3 := Lib.hid g3; clear g3
            have G4 := Lib.hid g4; clear g4
            by_cases h6 : hl + bl + wl ≤ 36
            · go_wp2
              go_roundw
              case rel => exact ⟨k + 1, by omega, by go_num, HBW.out.alloc HBW.out.size _, by rw [HS.out, HD.out, List.all_cons, ← l1.out, ← l2.out, ← l3.out, decide_eq_true h6, Bool.true_and]⟩
              case measure => simp [intOf]; omega
            · go_wp2
              go_ret
              exact ⟨ret_bool (by rw [HFIN2.out, HS.out, HD.out, List.all_cons, ← l1.out, ← l2.out, ← l3.out, decide_eq_false h6]; rfl), bel_trans HB0.out (HBW.out.alloc HBW.out.size _)⟩
          · have hfin3 : fewB p = p.min.all (fun m => decide (m.lits.length + m.w.length ≤ 24)) := by
              rw [HFIN2.out, HS.out, H1.out.stop (by omega)]; rfl
            have HFIN3 := Lib.hid hfin3; clear hfin3
            have hmm := HP.out.min.max
            have hmc := HP.out.min.cap
            go_wp2
            obtain ⟨wo, rfl⟩ : ∃ wo : World, wo = wr := ⟨_, rfl⟩
            go_loopw [70] (fun i wr => ∃ k : Nat, k ≤ ml ∧ i = .int .i64 k ∧ Below wo.heap.size wo wr ∧ p.min.all (fun m => decide (m.lits.length + m.w.length ≤ 24)) = (p.min.drop k).all (fun m => decide (m.lits.length + m.w.length ≤ 24))) (fun i _ => ml - (intOf i).toNat)
            case atStart => exact ⟨0, Nat.zero_le _, rfl, Below.refl _ _, rfl⟩
            case round =>
              obtain ⟨j, hj, rfl, hbw2, hs2⟩ := hrel
              have hb3 := bel_trans (bel_trans HB0.out HBW.out) hbw2
              have H2 := Lib.hid (HP.out.min.ext hb3)
              have HS2 := Lib.hid hs2; clear hs2
              have HBW2 := Lib.hid hbw2; clear hbw2
              have HB3 := Lib.hid hb3; clear hb3
              by_cases hlt2 : j < ml
              · obtain ⟨m, hx, hd⟩ := H2.out.drop hlt2
                obtain ⟨b, off, bA, bl, bc, wA, wl, wc, rfl, hbz, f0, f1, f2, g2, g3, g4⟩ := H2.out.min hx
                have s2 := g3.small
                have s3 := g4.small
                have l2 := Lib.hid g3.len
                have l3 := Lib.hid g4.len
                have HX := Lib.hid hx; clear hx
                have HD := Lib.hid hd; clear hd
                have G2 := Lib.hid g2; clear g2
                have G3 := Lib.hid g3; clear g3
                have G4 := Lib.hid g4; clear g4
                by_cases h6 : bl + wl ≤ 24
                · go_wp2
                  go_roundw
                  case rel => exact ⟨j + 1, by omega, by go_num, HBW2.out.alloc HBW2.out.size _, by rw [HS2.out, HD.out, List.all_cons, ← l2.out, ← l3.out, decide_eq_true h6, Bool.true_and]⟩
                  case measure => simp [intOf]; omega
                · go_wp2
                  go_ret
                  exact ⟨ret_bool (by rw [HFIN3.out, HS2.out, HD.out, List.all_cons, ← l2.out, ← l3.out, decide_eq_false h6]; rfl), HB3.out.alloc HB3.out.size _⟩
              · go_wp2
                go_ret
                exact ⟨ret_bool (by rw [HFIN3.out, HS2.out, H2.out.stop (by omega)]; rfl), HB3.out⟩
  · have hneg : fewB p = false := by
      unfold fewB; rw [← e1.out, ← e2.out, ← e3.out, ← e4.out, Bool.eq_false_iff]
      intro h
      simp only [Bool.and_eq_true, decide_eq_true_eq] at h
      omega
    have HNEG := Lib.hid hneg; clear hneg
    have H5 := Lib.hid h5; clear h5
    go_enter Try.func16, Try.ntmps16
    go_wp2
    all_goals first
      | (go_ret; exact ⟨ret_bool HNEG.out.symm, bel_alloc _ _⟩)
      | (exfalso; have := H5.out; omega)
end Go.Proofs.Ytcbkkjcleiibfaa

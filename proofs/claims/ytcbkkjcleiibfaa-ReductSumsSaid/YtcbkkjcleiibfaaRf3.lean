/- Contracts of the reference's truth of literals and bodies. -/
import Derived.Test.YtcbkkjcleiibfaaRf2
import Derived.Test.YtcbkkjcleiibfaaSem
namespace Go.Proofs.Ytcbkkjcleiibfaa
open Go.RowKit

set_option maxHeartbeats 400000 in
theorem refTrue_any (mA : Option Addr) (ml mc : Nat) (ms : List Int) (x : Int) (w : World) (h : SlIs intR w mA ml mc ms) (hx : -9223372036854775808 < x) (hx2 : x ≤ 9223372036854775807) :
    Calls Try.prog 54 #[.int .i64 x, .slice mA ml mc] w fun e w' => e = .returned (.bool (trueB x ms)) ∧ w = w' := by
  have H := Lib.hid h; clear h
  by_cases h0 : 0 < x
  · go_enter Try.func54, Try.ntmps54
    go_wp2_with fail
    go_fit (refIn_any _ _ _ ms x w H.out); rintro e w' ⟨rfl, rfl⟩
    go_wp2_with fail
    go_ret
    exact ⟨ret_bool (by unfold trueB; rw [if_pos h0]), rfl⟩
  · go_enter Try.func54, Try.ntmps54
    go_wp2_with fail
    go_fit (refIn_any _ _ _ ms (-x) w H.out); rintro e w' ⟨rfl, rfl⟩
    go_wp2_with fail
    go_ret
    exact ⟨ret_bool (by unfold trueB; rw [if_neg (by omega)]), rfl⟩

theorem all_step (b : Bool) (ms : Int) (rest : Bool) (h : 0 ≤ ms) : (decide (ms = 0) && (b && rest)) = (decide ((if b then ms else ms + 1) = 0) && rest) := by
  cases b
  · have h1 : ¬ ms + 1 = 0 := by omega
    simp [h1]
  · simp

set_option maxRecDepth 100000 in
set_option maxHeartbeats 4000000 in
theorem refBody_any (r : GRule) (hA : Option Addr) (hl hc : Nat) (bA : Option Addr) (bl bc : Nat) (wA : Option Addr) (wl wc : Nat) (mA : Option Addr) (ml mc : Nat) (ms : List Int) (w : World) (hr : RuleIn w r hA hl hc bA bl bc wA wl wc) (hm : SlIs intR w mA ml mc ms) (ok : BodyOk r) :
    Calls Try.prog 32 #[.agg #[.bool r.choice, .slice hA hl hc, .bool r.sum, .int .i64 r.bound, .slice bA bl bc, .slice wA wl wc], .slice mA ml mc] w fun e w' => e = .returned (.bool (bodyB r ms)) ∧ Below w.heap.size w w' := by
  have hbc := hr.body.cap
  have hbm := hr.body.max
  have hwc := hr.wt.cap
  have hwm := hr.wt.max
  have l2 := Lib.hid hr.body.len
  have l3 := Lib.hid hr.wt.len
  have T := Lib.hid (fun x hx hx2 W hb => refTrue_any mA ml mc ms x W (hm.ext hb) hx hx2)
  have HR := Lib.hid hr; clear hr
  have HM := Lib.hid hm; clear hm
  have OK := Lib.hid ok; clear ok
  by_cases hs : r.sum = true
  · have hlen := OK.out.len hs
    have hwl : wl = bl := by rw [l3.out, l2.out, hlen]
    subst hwl
    have hfin : bodyB r ms = decide (r.bound ≤ sumT r.body r.w ms) := by unfold bodyB; rw [if_pos hs]
    have hpos := Lib.hid (OK.out.pos hs)
    have htot := Lib.hid (OK.out.tot hs)
    have HFIN := Lib.hid hfin; clear hfin
    have HLEN := Lib.hid hlen; clear hlen
    rw [hs]
    have HS := Lib.hid hs; clear hs
    go_enter Try.func32, Try.ntmps32
    go_wp2
    go_loop [5, 6, 7] (fun s c i => ∃ (k : Nat) (z q : Int), k ≤ wl ∧ i = .int .i64 k ∧ s = .int .i64 z ∧ c = .int .i64 q ∧ 0 ≤ q ∧ q ≤ k ∧ 0 ≤ z ∧ z + (r.w.drop k).sum ≤ 1099511627776 ∧ sumT r.body r.w ms = z + sumT (r.body.drop k) (r.w.drop k) ms) (fun _ _ i => wl - (intOf i).toNat)
    case atStart => exact ⟨0, 0, 0, Nat.zero_le _, rfl, rfl, rfl, by omega, by omega, by omega, by simpa using htot.out, by simp⟩
    case round =>
      obtain ⟨k, z, q, hk, rfl, rfl, rfl, hq1, hq2, hz, hzs, hs2⟩ := hrel
      have hdn := sum_drop_nonneg hpos.out k
      have HS2 := Lib.hid hs2; clear hs2
      by_cases hlt : k < wl
      · obtain ⟨x, hx, hd⟩ := HR.out.body.drop hlt
        obtain ⟨y, hy, hd2⟩ := HR.out.wt.drop hlt
        obtain ⟨b, off, rfl, hbz, hcell, hx64⟩ := HR.out.body.int hx
        obtain ⟨b2, off2, rfl, hbz2, hcell2, _⟩ := HR.out.wt.int hy
        have hxl := OK.out.lit x (List.mem_of_getElem? hx)
        have hx9 : x ≤ 9223372036854775807 := hx64.2
        have hy0 := hpos.out y (List.mem_of_getElem? hy)
        have hdn2 := sum_drop_nonneg hpos.out (k + 1)
        rw [hd2, List.sum_cons] at hzs
        have HX := Lib.hid hx; clear hx
        have HD := Lib.hid hd; clear hd
        have HY := Lib.hid hy; clear hy
        have HD2 := Lib.hid hd2; clear hd2
        clear hx64
        by_cases ht : trueB x ms = true
        · go_wp2_with fail
          go_fit (T.out x hxl hx9 _ (bel_alloc _ _)); rintro e w' ⟨rfl, rfl⟩
          go_wp2_with fail
          go_round
          case rel => exact ⟨k + 1, z + y, q, by omega, by go_num, rfl, rfl, hq1, by omega, by omega, by omega, by rw [HS2.out, HD.out, HD2.out, sumT_cons, if_pos ht]; omega⟩
          case measure => simp [intOf]; omega
        · have hf : trueB x ms = false := by simpa using ht
          clear ht
          go_wp2_with fail
          go_fit (T.out x hxl hx9 _ (bel_alloc _ _)); rintro e w' ⟨rfl, rfl⟩
          go_wp2_with fail
          go_round
          case rel => exact ⟨k + 1, z, q + 1, by omega, by go_num, rfl, rfl, by omega, by omega, by omega, by omega, by rw [HS2.out, HD.out, HD2.out, sumT_cons, hf]; simp⟩
          case measure => simp [intOf]; omega
      · have hfin2 : bodyB r ms = decide (r.bound ≤ z) := by
          rw [HFIN.out, HS2.out, HR.out.body.stop (by omega)]; simp [sumT]
        have HFIN2 := Lib.hid hfin2; clear hfin2
        go_wp2
        all_goals go_ret
        all_goals exact ⟨ret_bool HFIN2.out.symm, bel_alloc _ _⟩
  · have hsf : r.sum = false := by simpa using hs
    clear hs
    have hfin : bodyB r ms = r.body.all (fun x => trueB x ms) := by unfold bodyB; rw [hsf]; rfl
    have HFIN := Lib.hid hfin; clear hfin
    rw [hsf]
    have HSF := Lib.hid hsf; clear hsf
    go_enter Try.func32, Try.ntmps32
    go_wp2
    go_loop [6, 7] (fun c i => ∃ (k : Nat) (q : Int), k ≤ bl ∧ i = .int .i64 k ∧ c = .int .i64 q ∧ 0 ≤ q ∧ q ≤ k ∧ r.body.all (fun x => trueB x ms) = (decide (q = 0) && (r.body.drop k).all (fun x => trueB x ms))) (fun _ i => bl - (intOf i).toNat)
    case atStart => exact ⟨0, 0, Nat.zero_le _, rfl, rfl, by omega, by omega, by simp⟩
    case round =>
      obtain ⟨k, q, hk, rfl, rfl, hq1, hq2, hs2⟩ := hrel
      have HS2 := Lib.hid hs2; clear hs2
      by_cases hlt : k < bl
      · obtain ⟨x, hx, hd⟩ := HR.out.body.drop hlt
        obtain ⟨b, off, rfl, hbz, hcell, hx64⟩ := HR.out.body.int hx
        have hxl := OK.out.lit x (List.mem_of_getElem? hx)
        have hx9 : x ≤ 9223372036854775807 := hx64.2
        have hst := all_step (trueB x ms) q ((r.body.drop (k + 1)).all (fun x => trueB x ms)) hq1
        have HX := Lib.hid hx; clear hx
        have HD := Lib.hid hd; clear hd
        have HST := Lib.hid hst; clear hst
        clear hx64
        by_cases ht : trueB x ms = true
        · go_wp2_with fail
          go_fit (T.out x hxl hx9 _ (bel_alloc _ _)); rintro e w' ⟨rfl, rfl⟩
          go_wp2_with fail
          go_round
          case rel => exact ⟨k + 1, q, by omega, by go_num, rfl, hq1, by omega, by rw [HS2.out, HD.out, List.all_cons, HST.out, ht]; rfl⟩
          case measure => simp [intOf]; omega
        · have hf : trueB x ms = false := by simpa using ht
          clear ht
          go_wp2_with fail
          go_fit (T.out x hxl hx9 _ (bel_alloc _ _)); rintro e w' ⟨rfl, rfl⟩
          go_wp2_with fail
          go_round
          case rel => exact ⟨k + 1, q + 1, by omega, by go_num, rfl, by omega, by omega, by rw [HS2.out, HD.out, List.all_cons, HST.out, hf]; rfl⟩
          case measure => simp [intOf]; omega
      · have hfin2 : bodyB r ms = (q == 0) := by
          rw [HFIN.out, HS2.out, HR.out.body.stop (by omega)]; simp; rfl
        have HFIN2 := Lib.hid hfin2; clear hfin2
        go_wp2
        all_goals go_ret
        all_goals exact ⟨ret_bool HFIN2.out.symm, bel_alloc _ _⟩

set_option maxRecDepth 100000 in
set_option maxHeartbeats 2000000 in
theorem rules_any (aA : Option Addr) (al ac : Nat) (bA : Option Addr) (bl bc : Nat) (xs ys : List GRule) (w : World) (ha : SlIs ruleR w aA al ac xs) (hb : SlIs ruleR w bA bl bc ys) :
    Calls Try.prog 28 #[.slice aA al ac, .slice bA bl bc] w fun e w' => e = .returned (.bool (decide (xs = ys))) ∧ Below w.heap.size w w' := by
  have hl := ha.cap
  have hm := ha.max
  have hl2 := hb.cap
  have hm2 := hb.max
  have la := Lib.hid ha.len
  have lb := Lib.hid hb.len
  have HA := Lib.hid ha; clear ha
  have HB := Lib.hid hb; clear hb
  by_cases hne : al = bl
  · subst hne
    go_enter Try.func28, Try.ntmps28
    go_wp2
    go_loopw [13] (fun i wr => ∃ k : Nat, k ≤ al ∧ i = .int .i64 k ∧ Below w.heap.size w wr ∧ decide (xs = ys) = decide (xs.drop k = ys.drop k)) (fun i _ => al - (intOf i).toNat)
    case atStart => exact ⟨0, Nat.zero_le _, rfl, Below.refl _ _, rfl⟩
    case round =>
      obtain ⟨k, hk, rfl, hbw, hs⟩ := hrel
      have H1 := Lib.hid (HA.out.ext hbw)
      have H2 := Lib.hid (HB.out.ext hbw)
      have HBW := Lib.hid hbw
      clear hbw
      have HS := Lib.hid hs; clear hs
      by_cases hlt : k < al
      · obtain ⟨x, hx, hd⟩ := HA.out.drop hlt
        obtain ⟨y, hy, hd2⟩ := HB.out.drop hlt
        obtain ⟨b, off, hA, hl, hc, bA, bl, bc, wA, wl, wc, rfl, _, f0, f1, f2, f3, f4, f5, g1, g2, g3, g4⟩ := H1.out.rule hx
        obtain ⟨b', off', hA', hl', hc', bA', bl', bc', wA', wl', wc', rfl, _, e0, e1, e2, e3, e4, e5, p1, p2, p3, p4⟩ := H2.out.rule hy
        have HR := Lib.hid (show RuleIn wr x hA hl hc bA bl bc wA wl wc from ⟨g1, g2, g3, g4⟩)
        have HR2 := Lib.hid (show RuleIn wr y hA' hl' hc' bA' bl' bc' wA' wl' wc' from ⟨p1, p2, p3, p4⟩)
        clear g1 g2 g3 g4 p1 p2 p3 p4
        have HX := Lib.hid hx; clear hx
        have HD := Lib.hid hd; clear hd
        have HY := Lib.hid hy; clear hy
        have HD2 := Lib.hid hd2; clear hd2
        have i0 : (0 : Int) ≤ (k : Int) := by omega
        have i1 : (k : Int) < (al : Int) := by omega
        by_cases he : x = y
        · have HE := Lib.hid he
          have heb : decide (x = y) = true := decide_eq_true he
          clear he
          have hct := fun W hb => heb ▸ lawRule_any x y hA hl hc bA bl bc wA wl wc hA' hl' hc' bA' bl' bc' wA' wl' wc' W (HR.out.ext hb) (HR2.out.ext hb)
          have HCT := Lib.hid hct
          clear hct heb
          go_wp2_with fail
          refine wp_region_later [(⟨b, off + k * 6, none⟩, .bool x.choice), (⟨b, off + k * 6 + 1, none⟩, .slice hA hl hc), (⟨b, off + k * 6 + 2, none⟩, .bool x.sum), (⟨b, off + k * 6 + 3, none⟩, .int .i64 x.bound), (⟨b, off + k * 6 + 4, none⟩, .slice bA bl bc), (⟨b, off + k * 6 + 5, none⟩, .slice wA wl wc), (⟨b', off' + k * 6, none⟩, .bool y.choice), (⟨b', off' + k * 6 + 1, none⟩, .slice hA' hl' hc'), (⟨b', off' + k * 6 + 2, none⟩, .bool y.sum), (⟨b', off' + k * 6 + 3, none⟩, .int .i64 y.bound), (⟨b', off' + k * 6 + 4, none⟩, .slice bA' bl' bc'), (⟨b', off' + k * 6 + 5, none⟩, .slice wA' wl' wc')] (by kernel_rfl) (by kernel_rfl) (by simp [go_sem, *]) ?_
          intro hk; simp only [List.forall_mem_cons] at hk; obtain ⟨k1_0, k1_1, k1_2, k1_3, k1_4, k1_5, k1_6, k1_7, k1_8, k1_9, k1_10, k1_11, kz⟩ := hk; clear kz
          repeat go_big_quiet_step ((first | (go_at_call 47; exact Calls.later (HCT.out _ (Later.h _)))))
          refine wpQuiet_nil ?_
          rintro w2 ⟨u1, rfl⟩
          have HU1 := Lib.hid u1.h
          clear k1_0 k1_1 k1_2 k1_3 k1_4 k1_5 k1_6 k1_7 k1_8 k1_9 k1_10 k1_11
          go_wp2_with fail
          go_roundw
          case rel => exact ⟨k + 1, by omega, by go_num, bel_trans HBW.out HU1.out, by rw [HS.out, HD.out, HD2.out, eq_cons, decide_eq_true HE.out, Bool.true_and]⟩
          case measure => simp [intOf]; omega
        · have HE := Lib.hid he
          have heb : decide (x = y) = false := decide_eq_false he
          clear he
          have hct := fun W hb => heb ▸ lawRule_any x y hA hl hc bA bl bc wA wl wc hA' hl' hc' bA' bl' bc' wA' wl' wc' W (HR.out.ext hb) (HR2.out.ext hb)
          have HCT := Lib.hid hct
          clear hct heb
          go_wp2_with fail
          refine wp_region_later [(⟨b, off + k * 6, none⟩, .bool x.choice), (⟨b, off + k * 6 + 1, none⟩, .slice hA hl hc), (⟨b, off + k * 6 + 2, none⟩, .bool x.sum), (⟨b, off + k * 6 + 3, none⟩, .int .i64 x.bound), (⟨b, off + k * 6 + 4, none⟩, .slice bA bl bc), (⟨b, off + k * 6 + 5, none⟩, .slice wA wl wc), (⟨b', off' + k * 6, none⟩, .bool y.choice), (⟨b', off' + k * 6 + 1, none⟩, .slice hA' hl' hc'), (⟨b', off' + k * 6 + 2, none⟩, .bool y.sum), (⟨b', off' + k * 6 + 3, none⟩, .int .i64 y.bound), (⟨b', off' + k * 6 + 4, none⟩, .slice bA' bl' bc'), (⟨b', off' + k * 6 + 5, none⟩, .slice wA' wl' wc')] (by kernel_rfl) (by kernel_rfl) (by simp [go_sem, *]) ?_
          intro hk; simp only [List.forall_mem_cons] at hk; obtain ⟨k1_0, k1_1, k1_2, k1_3, k1_4, k1_5, k1_6, k1_7, k1_8, k1_9, k1_10, k1_11, kz⟩ := hk; clear kz
          repeat go_big_quiet_step ((first | (go_at_call 47; exact Calls.later (HCT.out _ (Later.h _)))))
          refine wpQuiet_nil ?_
          rintro w2 ⟨u1, rfl⟩
          have HU1 := Lib.hid u1.h
          clear k1_0 k1_1 k1_2 k1_3 k1_4 k1_5 k1_6 k1_7 k1_8 k1_9 k1_10 k1_11
          go_wp2_with fail
          go_ret
          exact ⟨ret_bool (by rw [HS.out, HD.out, HD2.out, eq_cons, decide_eq_false HE.out, Bool.false_and]), bel_trans HBW.out HU1.out⟩
      · go_wp2
        go_ret
        exact ⟨ret_bool (by rw [HS.out, HA.out.stop (by omega), HB.out.stop (by omega)]; rfl), HBW.out⟩
  · have hn2 : ((al : Int) != (bl : Int)) = true := by simp; omega
    have HNE := Lib.hid hne
    clear hne
    go_enter Try.func28, Try.ntmps28
    go_wp2
    go_ret
    exact ⟨ret_bool (eq_len (by rw [← la.out, ← lb.out]; exact HNE.out)).symm, Below.refl _ _⟩
end Go.Proofs.Ytcbkkjcleiibfaa

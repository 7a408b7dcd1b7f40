/- Contracts: membership, equality of lists and rules, the reference's Rule. -/
import Derived.Test.YtcbkkjcleiibfaaRf1
namespace Go.Proofs.Ytcbkkjcleiibfaa
open Go.RowKit

set_option maxHeartbeats 400000 in
theorem refIn_any (lA : Option Addr) (ll lc : Nat) (xs : List Int) (x : Int) (w : World) (h : SlIs intR w lA ll lc xs) :
    Calls Try.prog 69 #[.slice lA ll lc, .int .i64 x] w fun e w' => e = .returned (.bool (decide (x ∈ xs))) ∧ w = w' := by
  have hl := h.cap
  have hm := h.max
  have H := Lib.hid h; clear h
  go_enter Try.func69, Try.ntmps69
  go_wp2
  go_loop [5] (fun i => ∃ k : Nat, k ≤ ll ∧ i = .int .i64 k ∧ decide (x ∈ xs) = decide (x ∈ xs.drop k)) (fun i => ll - (intOf i).toNat)
  case atStart => exact ⟨0, Nat.zero_le _, rfl, rfl⟩
  case round =>
    obtain ⟨k, hk, rfl, hs⟩ := hrel
    have HS := Lib.hid hs; clear hs
    by_cases hlt : k < ll
    · obtain ⟨y, hy, hd⟩ := H.out.drop hlt
      obtain ⟨b, off, rfl, _, hcell, _⟩ := H.out.int hy
      have HY := Lib.hid hy; clear hy
      have HD := Lib.hid hd; clear hd
      by_cases he : y = x
      · have HE := Lib.hid he
        have e1 : (y == x) = true := by simpa using he
        clear he
        go_wp2
        go_ret
        exact ⟨ret_bool (by rw [HS.out, HD.out, HE.out]; simp), rfl⟩
      · have HE := Lib.hid he
        have e1 : (y == x) = false := by simpa using he
        clear he
        go_wp2
        go_round
        case rel => exact ⟨k + 1, by omega, by go_num, by rw [HS.out, HD.out, Bool.eq_iff_iff]; simp [show ¬ x = y from fun h => HE.out h.symm]⟩
        case measure => simp [intOf]; omega
    · go_wp2
      go_ret
      exact ⟨ret_bool (by rw [HS.out, H.out.stop (by omega)]; simp), rfl⟩

theorem bel_alloc2 (w : World) (o p : Obj) : Below w.heap.size w ((w.alloc o).alloc p) := (bel_alloc w o).alloc (by simp) p
theorem bel_alloc3 (w : World) (o p q : Obj) : Below w.heap.size w (((w.alloc o).alloc p).alloc q) := (bel_alloc2 w o p).alloc (by simp; omega) q
theorem eq_cons {α : Type} [DecidableEq α] (x y : α) (a b : List α) : decide (x :: a = y :: b) = (decide (x = y) && decide (a = b)) := by
  rw [Bool.eq_iff_iff]; simp
theorem eq_len {α : Type} [DecidableEq α] {a b : List α} (h : a.length ≠ b.length) : decide (a = b) = false := decide_eq_false (fun e => h (by rw [e]))

set_option maxRecDepth 100000 in
set_option maxHeartbeats 1000000 in
theorem lawInts_any (aA : Option Addr) (al ac : Nat) (bA : Option Addr) (bl bc : Nat) (xs ys : List Int) (w : World) (ha : SlIs intR w aA al ac xs) (hb : SlIs intR w bA bl bc ys) :
    Calls Try.prog 13 #[.slice aA al ac, .slice bA bl bc] w fun e w' => e = .returned (.bool (decide (xs = ys))) ∧ Below w.heap.size w w' := by
  have hl := ha.cap
  have hm := ha.max
  have hl2 := hb.cap
  have hm2 := hb.max
  have la := Lib.hid ha.len
  have lb := Lib.hid hb.len
  have HA := Lib.hid ha; clear ha
  have HB := Lib.hid hb; clear hb
  by_cases hne : al = bl
  · subst hne
    go_enter Try.func13, Try.ntmps13
    go_wp2
    go_loopw [13] (fun i wr => ∃ k : Nat, k ≤ al ∧ i = .int .i64 k ∧ Below w.heap.size w wr ∧ decide (xs = ys) = decide (xs.drop k = ys.drop k)) (fun i _ => al - (intOf i).toNat)
    case atStart => exact ⟨0, Nat.zero_le _, rfl, Below.refl _ _, rfl⟩
    case round =>
      obtain ⟨k, hk, rfl, hbw, hs⟩ := hrel
      have H1 := Lib.hid (HA.out.ext hbw)
      have H2 := Lib.hid (HB.out.ext hbw)
      have HBW := Lib.hid hbw
      clear hbw
      have HS := Lib.hid hs; clear hs
      by_cases hlt : k < al
      · obtain ⟨x, hx, hd⟩ := HA.out.drop hlt
        obtain ⟨y, hy, hd2⟩ := HB.out.drop hlt
        obtain ⟨b, off, rfl, _, hcell, _⟩ := H1.out.int hx
        obtain ⟨b2, off2, rfl, _, hcell2, _⟩ := H2.out.int hy
        have HX := Lib.hid hx; clear hx
        have HD := Lib.hid hd; clear hd
        have HY := Lib.hid hy; clear hy
        have HD2 := Lib.hid hd2; clear hd2
        have i0 : (0 : Int) ≤ (k : Int) := by omega
        have i1 : (k : Int) < (al : Int) := by omega
        by_cases he : x = y
        · have HE := Lib.hid he
          have e1 : (x != y) = false := by simpa using he
          clear he
          go_wp2_with fail
          refine wp_region_later [(⟨b, off + k, none⟩, .int .i64 x), (⟨b2, off2 + k, none⟩, .int .i64 y)] (by kernel_rfl) (by kernel_rfl) (by simp [go_sem, *]) ?_
          intro hk; simp only [List.forall_mem_cons] at hk; obtain ⟨k1_0, k1_1, kz⟩ := hk; clear kz
          repeat go_big_quiet_step (fail)
          refine wpQuiet_nil ?_
          rintro w2 ⟨u1, rfl⟩
          have HU1 := Lib.hid u1.h
          clear k1_0 k1_1
          go_wp2_with fail
          go_roundw
          case rel => exact ⟨k + 1, by omega, by go_num, bel_trans HBW.out HU1.out, by rw [HS.out, HD.out, HD2.out, eq_cons, decide_eq_true HE.out, Bool.true_and]⟩
          case measure => simp [intOf]; omega
        · have HE := Lib.hid he
          have e1 : (x != y) = true := by simpa using he
          clear he
          go_wp2_with fail
          refine wp_region_later [(⟨b, off + k, none⟩, .int .i64 x), (⟨b2, off2 + k, none⟩, .int .i64 y)] (by kernel_rfl) (by kernel_rfl) (by simp [go_sem, *]) ?_
          intro hk; simp only [List.forall_mem_cons] at hk; obtain ⟨k1_0, k1_1, kz⟩ := hk; clear kz
          repeat go_big_quiet_step (fail)
          refine wpQuiet_nil ?_
          rintro w2 ⟨u1, rfl⟩
          have HU1 := Lib.hid u1.h
          clear k1_0 k1_1
          go_wp2_with fail
          go_ret
          exact ⟨ret_bool (by rw [HS.out, HD.out, HD2.out, eq_cons, decide_eq_false HE.out, Bool.false_and]), bel_trans HBW.out HU1.out⟩
      · go_wp2
        go_ret
        exact ⟨ret_bool (by rw [HS.out, HA.out.stop (by omega), HB.out.stop (by omega)]; rfl), HBW.out⟩
  · have hn2 : ((al : Int) != (bl : Int)) = true := by simp; omega
    have HNE := Lib.hid hne
    clear hne
    go_enter Try.func13, Try.ntmps13
    go_wp2
    go_ret
    exact ⟨ret_bool (eq_len (by rw [← la.out, ← lb.out]; exact HNE.out)).symm, Below.refl _ _⟩

set_option maxRecDepth 100000 in
set_option maxHeartbeats 1000000 in
theorem refInts_any (aA : Option Addr) (al ac : Nat) (bA : Option Addr) (bl bc : Nat) (xs ys : List Int) (w : World) (ha : SlIs intR w aA al ac xs) (hb : SlIs intR w bA bl bc ys) :
    Calls Try.prog 75 #[.slice aA al ac, .slice bA bl bc] w fun e w' => e = .returned (.bool (decide (xs = ys))) ∧ Below w.heap.size w w' := by
  have hl := ha.cap
  have hm := ha.max
  have hl2 := hb.cap
  have hm2 := hb.max
  have la := Lib.hid ha.len
  have lb := Lib.hid hb.len
  have HA := Lib.hid ha; clear ha
  have HB := Lib.hid hb; clear hb
  by_cases hne : al = bl
  · subst hne
    go_enter Try.func75, Try.ntmps75
    go_wp2
    go_loopw [5] (fun i wr => ∃ k : Nat, k ≤ al ∧ i = .int .i64 k ∧ Below w.heap.size w wr ∧ decide (xs = ys) = decide (xs.drop k = ys.drop k)) (fun i _ => al - (intOf i).toNat)
    case atStart => exact ⟨0, Nat.zero_le _, rfl, Below.refl _ _, rfl⟩
    case round =>
      obtain ⟨k, hk, rfl, hbw, hs⟩ := hrel
      have H1 := Lib.hid (HA.out.ext hbw)
      have H2 := Lib.hid (HB.out.ext hbw)
      have HBW := Lib.hid hbw
      clear hbw
      have HS := Lib.hid hs; clear hs
      by_cases hlt : k < al
      · obtain ⟨x, hx, hd⟩ := HA.out.drop hlt
        obtain ⟨y, hy, hd2⟩ := HB.out.drop hlt
        obtain ⟨b, off, rfl, _, hcell, _⟩ := H1.out.int hx
        obtain ⟨b2, off2, rfl, _, hcell2, _⟩ := H2.out.int hy
        have HX := Lib.hid hx; clear hx
        have HD := Lib.hid hd; clear hd
        have HY := Lib.hid hy; clear hy
        have HD2 := Lib.hid hd2; clear hd2
        have i0 : (0 : Int) ≤ (k : Int) := by omega
        have i1 : (k : Int) < (al : Int) := by omega
        by_cases he : x = y
        · have HE := Lib.hid he
          have e1 : (x != y) = false := by simpa using he
          clear he
          go_wp2_with fail
          refine wp_region_later [(⟨b, off + k, none⟩, .int .i64 x), (⟨b2, off2 + k, none⟩, .int .i64 y)] (by kernel_rfl) (by kernel_rfl) (by simp [go_sem, *]) ?_
          intro hk; simp only [List.forall_mem_cons] at hk; obtain ⟨k1_0, k1_1, kz⟩ := hk; clear kz
          repeat go_big_quiet_step (fail)
          refine wpQuiet_nil ?_
          rintro w2 ⟨u1, rfl⟩
          have HU1 := Lib.hid u1.h
          clear k1_0 k1_1
          go_wp2_with fail
          go_roundw
          case rel => exact ⟨k + 1, by omega, by go_num, bel_trans HBW.out HU1.out, by rw [HS.out, HD.out, HD2.out, eq_cons, decide_eq_true HE.out, Bool.true_and]⟩
          case measure => simp [intOf]; omega
        · have HE := Lib.hid he
          have e1 : (x != y) = true := by simpa using he
          clear he
          go_wp2_with fail
          refine wp_region_later [(⟨b, off + k, none⟩, .int .i64 x), (⟨b2, off2 + k, none⟩, .int .i64 y)] (by kernel_rfl) (by kernel_rfl) (by simp [go_sem, *]) ?_
          intro hk; simp only [List.forall_mem_cons] at hk; obtain ⟨k1_0, k1_1, kz⟩ := hk; clear kz
          repeat go_big_quiet_step (fail)
          refine wpQuiet_nil ?_
          rintro w2 ⟨u1, rfl⟩
          have HU1 := Lib.hid u1.h
          clear k1_0 k1_1
          go_wp2_with fail
          go_ret
          exact ⟨ret_bool (by rw [HS.out, HD.out, HD2.out, eq_cons, decide_eq_false HE.out, Bool.false_and]), bel_trans HBW.out HU1.out⟩
      · go_wp2
        go_ret
        exact ⟨ret_bool (by rw [HS.out, HA.out.stop (by omega), HB.out.stop (by omega)]; rfl), HBW.out⟩
  · have hn2 : ((al : Int) != (bl : Int)) = true := by simp; omega
    have HNE := Lib.hid hne
    clear hne
    go_enter Try.func75, Try.ntmps75
    go_wp2
    go_ret
    exact ⟨ret_bool (eq_len (by rw [← la.out, ← lb.out]; exact HNE.out)).symm, Below.refl _ _⟩

theorem rule_eq (r s : GRule) : decide (r = s) = (decide (r.choice = s.choice) && decide (r.sum = s.sum) && decide (r.bound = s.bound) && decide (r.head = s.head) && decide (r.body = s.body) && decide (r.w = s.w)) := by
  obtain ⟨c, h, s1, b, y, w⟩ := r
  obtain ⟨c', h', s1', b', y', w'⟩ := s
  rw [Bool.eq_iff_iff]; simp; constructor <;> (intro h; simp_all)
set_option maxRecDepth 100000 in
set_option maxHeartbeats 2000000 in
theorem sameRule_any (r s : GRule) (hA : Option Addr) (hl hc : Nat) (bA : Option Addr) (bl bc : Nat) (wA : Option Addr) (wl wc : Nat) (iA : Option Addr) (il ic : Nat) (cA : Option Addr) (cl cc : Nat) (xA : Option Addr) (xl xc : Nat) (w : World) (hr : RuleIn w r hA hl hc bA bl bc wA wl wc) (hs : RuleIn w s iA il ic cA cl cc xA xl xc) :
    Calls Try.prog 67 #[.agg #[.bool r.choice, .slice hA hl hc, .bool r.sum, .int .i64 r.bound, .slice bA bl bc, .slice wA wl wc], .agg #[.bool s.choice, .slice iA il ic, .bool s.sum, .int .i64 s.bound, .slice cA cl cc, .slice xA xl xc]] w fun e w' => e = .returned (.bool (decide (r = s))) ∧ Below w.heap.size w w' := by
  have heq := rule_eq r s
  have HR := Lib.hid hr; clear hr
  have HS := Lib.hid hs; clear hs
  have HEQ := Lib.hid heq; clear heq
  generalize he1 : decide (r.head = s.head) = e1 at *
  generalize he2 : decide (r.body = s.body) = e2 at *
  generalize he3 : decide (r.w = s.w) = e3 at *
  have c1 := fun W (hb : Below w.heap.size w W) => he1 ▸ refInts_any _ _ _ _ _ _ _ _ W (HR.out.head.ext hb) (HS.out.head.ext hb)
  have c2 := fun W (hb : Below w.heap.size w W) => he2 ▸ refInts_any _ _ _ _ _ _ _ _ W (HR.out.body.ext hb) (HS.out.body.ext hb)
  have c3 := fun W (hb : Below w.heap.size w W) => he3 ▸ refInts_any _ _ _ _ _ _ _ _ W (HR.out.wt.ext hb) (HS.out.wt.ext hb)
  clear he1 he2 he3
  have C1 := Lib.hid c1
  have C2 := Lib.hid c2
  have C3 := Lib.hid c3
  clear c1 c2 c3
  by_cases hq : r.choice = s.choice ∧ r.sum = s.sum ∧ r.bound = s.bound
  · obtain ⟨q1, q2, q3⟩ := hq
    have b1 : (r.choice == s.choice) = true := by simpa using q1
    have b2 : (r.sum == s.sum) = true := by simpa using q2
    have b3 : (r.bound == s.bound) = true := by simpa using q3
    have Q1 := Lib.hid q1; clear q1
    have Q2 := Lib.hid q2; clear q2
    have Q3 := Lib.hid q3; clear q3
    cases e1
    · go_enter Try.func67, Try.ntmps67
      go_wp2_with fail
      go_fit (C1.out _ (bel_alloc2 _ _ _)); rintro e w1 ⟨rfl, hb1⟩
      have HB1 := Lib.hid (bel_trans (bel_alloc2 _ _ _) hb1)
      clear hb1
      go_wp2_with fail
      go_ret
      exact ⟨ret_bool (by rw [HEQ.out]; simp), HB1.out⟩
    · cases e2
      · go_enter Try.func67, Try.ntmps67
        go_wp2_with fail
        go_fit (C1.out _ (bel_alloc2 _ _ _)); rintro e w1 ⟨rfl, hb1⟩
        have hc1 := bcell hb1
        have HB1 := Lib.hid (bel_trans (bel_alloc2 _ _ _) hb1)
        clear hb1
        go_wp2_with fail
        go_fit (C2.out _ HB1.out); rintro e w2 ⟨rfl, hb2⟩
        have HB2 := Lib.hid (bel_trans HB1.out hb2)
        clear hb2
        go_wp2_with fail
        go_ret
        exact ⟨ret_bool (by rw [HEQ.out]; simp), HB2.out⟩
      · go_enter Try.func67, Try.ntmps67
        go_wp2_with fail
        go_fit (C1.out _ (bel_alloc2 _ _ _)); rintro e w1 ⟨rfl, hb1⟩
        have hc1 := bcell hb1
        have hz1 : w.heap.size + 1 < w1.heap.size := by have := hb1.size; simp at this; omega
        have hz0 : w.heap.size < w1.heap.size := by omega
        have HB1 := Lib.hid (bel_trans (bel_alloc2 _ _ _) hb1)
        clear hb1
        go_wp2_with fail
        go_fit (C2.out _ HB1.out); rintro e w2 ⟨rfl, hb2⟩
        have hc2 := bcell hb2
        have HB2 := Lib.hid (bel_trans HB1.out hb2)
        clear hb2
        go_wp2_with fail
        go_fit (C3.out _ HB2.out); rintro e w3 ⟨rfl, hb3⟩
        have HB3 := Lib.hid (bel_trans HB2.out hb3)
        clear hb3
        go_wp2_with fail
        go_ret
        exact ⟨ret_bool (by rw [HEQ.out, decide_eq_true Q1.out, decide_eq_true Q2.out, decide_eq_true Q3.out]; simp), HB3.out⟩
  · have HQ := Lib.hid hq
    clear hq
    go_enter Try.func67, Try.ntmps67
    go_wp2_with fail
    · exact absurd ⟨‹_›, ‹_›, ‹_›⟩ HQ.out
    all_goals go_ret
    all_goals exact ⟨ret_bool (by rw [HEQ.out]; simp [*]), bel_alloc2 _ _ _⟩

set_option maxHeartbeats 1000000 in
theorem lawRule_any (r s : GRule) (hA : Option Addr) (hl hc : Nat) (bA : Option Addr) (bl bc : Nat) (wA : Option Addr) (wl wc : Nat) (iA : Option Addr) (il ic : Nat) (cA : Option Addr) (cl cc : Nat) (xA : Option Addr) (xl xc : Nat) (w : World) (hr : RuleIn w r hA hl hc bA bl bc wA wl wc) (hs : RuleIn w s iA il ic cA cl cc xA xl xc) :
    Calls Try.prog 47 #[.agg #[.bool r.choice, .slice hA hl hc, .bool r.sum, .int .i64 r.bound, .slice bA bl bc, .slice wA wl wc], .agg #[.bool s.choice, .slice iA il ic, .bool s.sum, .int .i64 s.bound, .slice cA cl cc, .slice xA xl xc]] w fun e w' => e = .returned (.bool (decide (r = s))) ∧ Below w.heap.size w w' := by
  have HR := Lib.hid hr; clear hr
  have HS := Lib.hid hs; clear hs
  go_enter Try.func47, Try.ntmps47
  go_wp2_with fail
  go_fit (sameRule_any r s _ _ _ _ _ _ _ _ _ _ _ _ _ _ _ _ _ _ _ (HR.out.ext (bel_alloc2 _ _ _)) (HS.out.ext (bel_alloc2 _ _ _))); rintro e w1 ⟨rfl, hb1⟩
  have HB1 := Lib.hid (bel_trans (bel_alloc2 _ _ _) hb1)
  clear hb1
  go_wp2_with fail
  go_ret
  exact ⟨rfl, HB1.out⟩

/-- The reference's sum of weights, or -1. -/
def totalGo (least s : Int) : List Int → Int
  | [] => s
  | x :: r => if x < least ∨ 1048576 < x ∨ 1048576 < s + x then -1 else totalGo least (s + x) r
theorem totalGo_cons (least s x : Int) (r : List Int) : totalGo least s (x :: r) = if x < least ∨ 1048576 < x ∨ 1048576 < s + x then -1 else totalGo least (s + x) r := rfl
theorem totalGo_wt : ∀ (xs : List Int) (s : Int), 0 ≤ s → decide (totalGo 1 s xs < 0) = !wtGo s xs
  | [], s, hs => decide_eq_false (show ¬ s < 0 by omega)
  | x :: r, s, hs => by
    rw [totalGo_cons, wtGo]
    by_cases h : x < 1 ∨ 1048576 < x ∨ 1048576 < s + x
    · rw [if_pos h]
      by_cases h1 : 1 ≤ x
      · rw [decide_eq_false (show ¬ x ≤ 1048576 - s by omega)]; simp
      · rw [decide_eq_false h1]; simp
    · rw [if_neg h, totalGo_wt r (s + x) (by omega), decide_eq_true (show 1 ≤ x by omega), decide_eq_true (show x ≤ 1048576 - s by omega)]; simp
set_option maxHeartbeats 1000000 in
theorem refTotal_any (lA : Option Addr) (ll lc : Nat) (xs : List Int) (least : Int) (w : World) (h : SlIs intR w lA ll lc xs) (h0 : 0 ≤ least) :
    Calls Try.prog 53 #[.slice lA ll lc, .int .i64 least] w fun e w' => e = .returned (.int .i64 (totalGo least 0 xs)) ∧ w = w' := by
  have hl := h.cap
  have hm := h.max
  have H := Lib.hid h; clear h
  go_enter Try.func53, Try.ntmps53
  go_wp2
  go_loop [5, 6] (fun s i => ∃ (k : Nat) (z : Int), k ≤ ll ∧ i = .int .i64 k ∧ s = .int .i64 z ∧ 0 ≤ z ∧ z ≤ 1048576 ∧ totalGo least 0 xs = totalGo least z (xs.drop k)) (fun _ i => ll - (intOf i).toNat)
  case atStart => exact ⟨0, 0, by omega, rfl, rfl, by omega, by omega, rfl⟩
  case round =>
    obtain ⟨k, z, hk, rfl, rfl, hz1, hz2, hs⟩ := hrel
    have HS := Lib.hid hs; clear hs
    by_cases hlt : k < ll
    · obtain ⟨x, hx, hd⟩ := H.out.drop hlt
      obtain ⟨b, off, rfl, _, hcell, hx64⟩ := H.out.int hx
      unfold I64 at hx64
      obtain ⟨hxa, hxb⟩ := hx64
      have HX := Lib.hid hx; clear hx
      have HD := Lib.hid hd; clear hd
      by_cases h1 : x < least
      · go_wp2
        go_ret
        exact ⟨ret_int (by rw [HS.out, HD.out, totalGo_cons, if_pos (by omega)]), rfl⟩
      · by_cases h2 : 1048576 < x
        · go_wp2
          go_ret
          exact ⟨ret_int (by rw [HS.out, HD.out, totalGo_cons, if_pos (by omega)]), rfl⟩
        · by_cases h3 : 1048576 < z + x
          · go_wp2
            go_ret
            exact ⟨ret_int (by rw [HS.out, HD.out, totalGo_cons, if_pos (by omega)]), rfl⟩
          · go_wp2
            go_round
            case rel => exact ⟨k + 1, z + x, by omega, by go_num, rfl, by omega, by omega, by rw [HS.out, HD.out, totalGo_cons, if_neg (by omega)]⟩
            case measure => simp [intOf]; omega
    · go_wp2
      go_ret
      exact ⟨ret_int (by rw [HS.out, H.out.stop (by omega)]; rfl), rfl⟩

set_option maxHeartbeats 2000000 in
theorem refRule_any (r : GRule) (hA : Option Addr) (hl hc : Nat) (bA : Option Addr) (bl bc : Nat) (wA : Option Addr) (wl wc : Nat) (n : Int) (w : World) (hr : RuleIn w r hA hl hc bA bl bc wA wl wc) :
    Calls Try.prog 31 #[.agg #[.bool r.choice, .slice hA hl hc, .bool r.sum, .int .i64 r.bound, .slice bA bl bc, .slice wA wl wc], .int .i64 n] w fun e w' => e = .returned (.int .i64 (ruleE r n)) ∧ Below w.heap.size w w' := by
  have e1 := Lib.hid hr.head.len
  have e2 := Lib.hid hr.body.len
  have e3 := Lib.hid hr.wt.len
  have ht := totalGo_wt r.w 0 (by omega)
  generalize hq : totalGo 1 0 r.w = q at *
  have HQ := Lib.hid hq
  have HT := Lib.hid ht
  clear hq ht
  have HR := Lib.hid hr; clear hr
  go_enter Try.func31, Try.ntmps31
  go_wp2_with (first
    | (go_at_call 51; refine (refAtoms_any _ _ _ _ _ _ (HR.out.head.ext (bel_alloc _ _))).mono ?_; rintro e w1 ⟨rfl, hb1⟩; have hc1 := bcell hb1; have hz1 := bsz hb1; have HB1 := bel_trans (bel_alloc _ _) hb1; clear hb1)
    | (go_at_call 52; refine (refLits_any _ _ _ _ _ _ (HR.out.body.ext HB1) (by omega) (by omega)).mono ?_; rintro e w2 ⟨rfl, hb2⟩; have hc2 := bcell hb2; have HB2 := bel_trans HB1 hb2; clear hb2)
    | (go_at_call 53; refine (HQ.out ▸ refTotal_any _ _ _ r.w 1 _ (HR.out.wt.ext HB2) (by omega)).mono ?_; rintro e w3 ⟨rfl, rfl⟩))
  all_goals go_ret
  all_goals refine ⟨ret_int ?_, by first | assumption | exact bel_alloc _ _⟩
  all_goals
    have hT : (q < 0 ↔ wtGo 0 r.w = false) := by have := HT.out; rw [Bool.eq_iff_iff] at this; simpa using this
    unfold ruleE wtB; rw [← e1.out, ← e2.out, ← e3.out]
    clear e1 e2 e3 HT HQ HR
    generalize wtGo 0 r.w = g at *
    cases g <;> simp_all <;> omega
end Go.Proofs.Ytcbkkjcleiibfaa

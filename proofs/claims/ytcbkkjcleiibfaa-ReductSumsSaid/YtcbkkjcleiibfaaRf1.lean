/- Contracts of the reference's and the laws' tests on lists of ints and rules. -/
import Derived.Test.YtcbkkjcleiibfaaGp3
import Derived.Test.YtcbkkjcleiibfaaLater
namespace Go.Proofs.Ytcbkkjcleiibfaa
open Go.RowKit

set_option maxHeartbeats 400000 in
theorem refAtom_any (x : Int) (w : World) (h1 : -9223372036854775807 ≤ x) :
    Calls Try.prog 76 #[.int .i64 x] w fun e w' => e = .returned (.int .i64 (absI x)) ∧ w = w' := by
  go_enter Try.func76, Try.ntmps76
  go_wp2
  all_goals go_ret
  all_goals exact ⟨ret_int (by unfold absI; split <;> omega), rfl⟩

set_option maxHeartbeats 1000000 in
theorem refBefore_any (a b : Int) (w : World) (h1 : -9223372036854775807 ≤ a) (h3 : -9223372036854775807 ≤ b) :
    Calls Try.prog 68 #[.int .i64 a, .int .i64 b] w fun e w' => e = .returned (.bool (litLt a b)) ∧ w = w' := by
  have A1 := fun w => refAtom_any a w h1
  have A2 := fun w => refAtom_any b w h3
  generalize hx : absI a = x at *
  generalize hy : absI b = y at *
  have hl : litLt a b = (decide (x < y) || (decide (x = y) && decide (b < a))) := by unfold litLt; rw [hx, hy]
  clear hx hy
  have HL := Lib.hid hl; clear hl
  by_cases h : x < y
  · go_enter Try.func68, Try.ntmps68
    go_wp2_with fail
    go_fit (A1 _); rintro e w' ⟨rfl, rfl⟩
    go_wp2_with fail
    go_fit (A2 _); rintro e w' ⟨rfl, rfl⟩
    go_wp2_with fail
    go_ret
    exact ⟨ret_bool (by rw [HL.out]; simp [h]), rfl⟩
  · have hd : decide (x < y) = false := decide_eq_false h
    by_cases he : x = y
    · have he2 : (x == y) = true := by simpa using he
      have HE := Lib.hid he; clear he
      go_enter Try.func68, Try.ntmps68
      go_wp2_with fail
      go_fit (A1 _); rintro e w' ⟨rfl, rfl⟩
      go_wp2_with fail
      go_fit (A2 _); rintro e w' ⟨rfl, rfl⟩
      go_wp2_with fail
      go_fit (A1 _); rintro e w' ⟨rfl, rfl⟩
      go_wp2_with fail
      go_fit (A2 _); rintro e w' ⟨rfl, rfl⟩
      go_wp2_with fail
      go_ret
      exact ⟨ret_bool (by rw [HL.out, hd, decide_eq_true HE.out]; simp), rfl⟩
    · have he2 : (x == y) = false := by simpa using he
      have HE := Lib.hid he; clear he
      go_enter Try.func68, Try.ntmps68
      go_wp2_with fail
      go_fit (A1 _); rintro e w' ⟨rfl, rfl⟩
      go_wp2_with fail
      go_fit (A2 _); rintro e w' ⟨rfl, rfl⟩
      go_wp2_with fail
      go_fit (A1 _); rintro e w' ⟨rfl, rfl⟩
      go_wp2_with fail
      go_fit (A2 _); rintro e w' ⟨rfl, rfl⟩
      go_wp2_with fail
      go_ret
      exact ⟨ret_bool (by rw [HL.out, hd, decide_eq_false HE.out]; simp), rfl⟩

theorem litB_parts (x n : Int) : litB x n = (!(x == 0) && (decide (-n ≤ x) && decide (x ≤ n))) := by unfold litB; rfl
set_option maxRecDepth 100000 in
set_option maxHeartbeats 2000000 in
theorem refLits_any (lA : Option Addr) (ll lc : Nat) (xs : List Int) (n : Int) (w : World) (h : SlIs intR w lA ll lc xs) (hn : 0 ≤ n) (hn2 : n ≤ 4000) :
    Calls Try.prog 52 #[.slice lA ll lc, .int .i64 n] w fun e w' => e = .returned (.bool (ordB n xs)) ∧ Below w.heap.size w w' := by
  have hl := h.cap
  have hm := h.max
  have H := Lib.hid h; clear h
  go_enter Try.func52, Try.ntmps52
  go_wp2
  go_loopw [5] (fun i wr => ∃ k : Nat, k ≤ ll ∧ i = .int .i64 k ∧ Below w.heap.size w wr ∧ (∀ y, prevAt xs k = some y → -n ≤ y ∧ y ≤ n) ∧ ordB n xs = ordGo n (prevAt xs k) (xs.drop k)) (fun i _ => ll - (intOf i).toNat)
  case atStart => exact ⟨0, Nat.zero_le _, rfl, Below.refl _ _, by simp [prevAt], rfl⟩
  case round =>
    obtain ⟨k, hk, rfl, hbw, hy, hs⟩ := hrel
    have H1 := Lib.hid (H.out.ext hbw)
    have HB := Lib.hid hbw
    clear hbw
    have HS := Lib.hid hs; clear hs
    have HY := Lib.hid hy; clear hy
    by_cases hlt : k < ll
    · obtain ⟨x, hx, hd⟩ := H.out.drop hlt
      obtain ⟨b, off, rfl, _, hcell, _⟩ := H1.out.int hx
      have HX := Lib.hid hx; clear hx
      have HD := Lib.hid hd; clear hd
      have i0 : (0 : Int) ≤ (k : Int) := by omega
      have i1 : (k : Int) < (ll : Int) := by omega
      by_cases hlit : litB x n = true
      · have hxb := litB_bd hlit
        have hx0 : (x == 0) = false := by
          rw [litB_parts] at hlit; simp at hlit; simpa using hlit.1
        by_cases hk0 : k = 0
        · have q1 : decide (0 < (k : Int)) = false := decide_eq_false (by omega)
          have q2 : decide (0 < k) = false := decide_eq_false (by omega)
          have HK := Lib.hid hk0
          clear hk0
          go_wp2_with fail
          refine wp_region_later [(⟨b, off + k, none⟩, .int .i64 x)] (by kernel_rfl) (by kernel_rfl) (by simp [go_sem, *]) ?_
          intro hk; simp only [List.forall_mem_cons] at hk; obtain ⟨k1_0, kz⟩ := hk; clear kz
          repeat go_big_quiet_step ((first | (go_at_call 68; exact Calls.later_same (refBefore_any _ _ _ (by omega) (by omega)))))
          refine wpQuiet_nil ?_
          rintro w2 ⟨u1, rfl⟩
          have HU1 := Lib.hid u1.h
          clear k1_0
          go_wp2_with fail
          go_roundw
          case rel => exact ⟨k + 1, by omega, by go_num, bel_trans HB.out HU1.out, by intro y h2; rw [prevAt_succ, HX.out] at h2; cases h2; exact hxb, by rw [HS.out, HD.out, ordGo_cons, hlit, prevAt_succ, HX.out, HK.out]; rfl⟩
          case measure => simp [intOf]; omega
        · obtain ⟨j, rfl⟩ : ∃ j, k = j + 1 := ⟨k - 1, by omega⟩
          obtain ⟨y, hy, _⟩ := H.out.drop (k := j) (by omega)
          have hyb := HY.out y hy
          obtain ⟨b2, off2, he2, _, hcell2, _⟩ := H1.out.int hy
          cases he2
          have HYY := Lib.hid hy; clear hy
          have e1 : IntKind.i64.wrap ((j : Int) + 1 - 1) = j := by rw [IntWalk.i64_in _ (by omega)]; omega
          have q1 : decide (0 < (j : Int) + 1) = true := decide_eq_true (by omega)
          have q2 : decide (0 < j + 1) = true := decide_eq_true (by omega)
          by_cases hlt2 : litLt y x = true
          · go_wp2_with fail
            refine wp_region_later [(⟨b, off + (j + 1), none⟩, .int .i64 x), (⟨b, off + j, none⟩, .int .i64 y)] (by kernel_rfl) (by kernel_rfl) (by simp [go_sem, *]) ?_
            intro hk; simp only [List.forall_mem_cons] at hk; obtain ⟨k1_0, k1_1, kz⟩ := hk; clear kz
            repeat go_big_quiet_step ((first | (go_at_call 68; exact Calls.later_same (refBefore_any _ _ _ (by omega) (by omega)))))
            refine wpQuiet_nil ?_
            rintro w2 ⟨u1, rfl⟩
            have HU1 := Lib.hid u1.h
            clear k1_0 k1_1
            go_wp2_with fail
            go_roundw
            case rel => exact ⟨j + 2, by omega, by go_num, bel_trans HB.out HU1.out, by intro z h2; rw [prevAt_succ, HX.out] at h2; cases h2; exact hxb, by rw [HS.out, HD.out, ordGo_cons, hlit, prevAt_succ, HYY.out, prevAt_succ, HX.out]; simp [hlt2]⟩
            case measure => simp [intOf]; omega
          · have hf2 : litLt y x = false := by simpa using hlt2
            clear hlt2
            go_wp2_with fail
            refine wp_region_later [(⟨b, off + (j + 1), none⟩, .int .i64 x), (⟨b, off + j, none⟩, .int .i64 y)] (by kernel_rfl) (by kernel_rfl) (by simp [go_sem, *]) ?_
            intro hk; simp only [List.forall_mem_cons] at hk; obtain ⟨k1_0, k1_1, kz⟩ := hk; clear kz
            repeat go_big_quiet_step ((first | (go_at_call 68; exact Calls.later_same (refBefore_any _ _ _ (by omega) (by omega)))))
            refine wpQuiet_nil ?_
            rintro w2 ⟨u1, rfl⟩
            have HU1 := Lib.hid u1.h
            clear k1_0 k1_1
            go_wp2_with fail
            go_ret
            exact ⟨ret_bool (by rw [HS.out, HD.out, ordGo_cons, prevAt_succ, HYY.out]; simp [hf2]), bel_trans HB.out HU1.out⟩
      · have hlf : litB x n = false := by simpa using hlit
        clear hlit
        by_cases hx0 : x = 0
        · have HX0 := Lib.hid hx0
          have hx1 : (x == 0) = true := by simpa using hx0
          clear hx0
          go_wp2_with fail
          go_ret
          exact ⟨ret_bool (by rw [HS.out, HD.out, ordGo_cons, hlf]; simp), HB.out⟩
        · have hx1 : (x == 0) = false := by simpa using hx0
          by_cases hx2 : n < x
          · go_wp2_with fail
            go_ret
            exact ⟨ret_bool (by rw [HS.out, HD.out, ordGo_cons, hlf]; simp), HB.out⟩
          · by_cases hx3 : x < -n
            · go_wp2_with fail
              go_ret
              exact ⟨ret_bool (by rw [HS.out, HD.out, ordGo_cons, hlf]; simp), HB.out⟩
            · exfalso
              rw [litB_parts, hx1, decide_eq_true (by omega), decide_eq_true (by omega)] at hlf
              simp at hlf
    · go_wp2
      go_ret
      exact ⟨ret_bool (by rw [HS.out, H.out.stop (by omega)]; rfl), HB.out⟩

/-- Atoms, strictly increasing, behind p. -/
def atomsGo (n : Int) (p : Option Int) : List Int → Bool
  | [] => true
  | x :: r => decide (1 ≤ x) && decide (x ≤ n) && (match p with | none => true | some y => decide (y < x)) && atomsGo n (some x) r
theorem atomsGo_cons (n : Int) (p : Option Int) (x : Int) (r : List Int) : atomsGo n p (x :: r) = (decide (1 ≤ x) && decide (x ≤ n) && (match p with | none => true | some y => decide (y < x)) && atomsGo n (some x) r) := rfl
theorem ordGo_atoms (n : Int) : ∀ (xs : List Int) (p : Option Int), (∀ y, p = some y → 0 < y) → (ordGo n p xs && xs.all (fun x => decide (0 < x))) = atomsGo n p xs
  | [], p, _ => rfl
  | x :: r, p, hp => by
    by_cases hx : 0 < x
    · have ih := ordGo_atoms n r (some x) (by rintro y h; cases h; exact hx)
      rw [ordGo_cons, atomsGo_cons, List.all_cons, decide_eq_true hx, Bool.true_and, ← ih, decide_eq_true (show 1 ≤ x by omega)]
      have h1 : litB x n = decide (x ≤ n) := by
        have : ¬ x = 0 := by omega
        rw [Bool.eq_iff_iff]; simp [litB, this]; omega
      rw [h1, Bool.true_and, Bool.and_assoc]
      cases p with
      | none => rfl
      | some y =>
        have hy := hp y rfl
        have a1 : absI y = y := by unfold absI; rw [if_neg (by omega)]
        have a2 : absI x = x := by unfold absI; rw [if_neg (by omega)]
        have h2 : litLt y x = decide (y < x) := by
          simp only [litLt, a1, a2]
          rw [Bool.eq_iff_iff]; simp; omega
        simp only [h2]
    · have h1 : ¬ 1 ≤ x := by omega
      rw [atomsGo_cons, List.all_cons, decide_eq_false hx, decide_eq_false h1]; simp
theorem incB_atoms (n : Int) (xs : List Int) : incB n xs = atomsGo n none xs := ordGo_atoms n xs none (by simp)

set_option maxRecDepth 100000 in
set_option maxHeartbeats 2000000 in
theorem refAtoms_any (lA : Option Addr) (ll lc : Nat) (xs : List Int) (n : Int) (w : World) (h : SlIs intR w lA ll lc xs) :
    Calls Try.prog 51 #[.slice lA ll lc, .int .i64 n] w fun e w' => e = .returned (.bool (incB n xs)) ∧ Below w.heap.size w w' := by
  have hl := h.cap
  have hm := h.max
  have H := Lib.hid h; clear h
  go_enter Try.func51, Try.ntmps51
  go_wp2
  go_loopw [5] (fun i wr => ∃ k : Nat, k ≤ ll ∧ i = .int .i64 k ∧ Below w.heap.size w wr ∧ incB n xs = atomsGo n (prevAt xs k) (xs.drop k)) (fun i _ => ll - (intOf i).toNat)
  case atStart => exact ⟨0, Nat.zero_le _, rfl, Below.refl _ _, incB_atoms _ _⟩
  case round =>
    obtain ⟨k, hk, rfl, hbw, hs⟩ := hrel
    have H1 := Lib.hid (H.out.ext hbw)
    have HB := Lib.hid hbw
    clear hbw
    have HS := Lib.hid hs; clear hs
    by_cases hlt : k < ll
    · obtain ⟨x, hx, hd⟩ := H.out.drop hlt
      obtain ⟨b, off, rfl, _, hcell, _⟩ := H1.out.int hx
      have HX := Lib.hid hx; clear hx
      have HD := Lib.hid hd; clear hd
      have i0 : (0 : Int) ≤ (k : Int) := by omega
      have i1 : (k : Int) < (ll : Int) := by omega
      by_cases h1 : x < 1
      · have p1 : decide (x < 1) = true := decide_eq_true h1
        go_wp2_with fail
        refine wp_region_later [(⟨b, off + k, none⟩, .int .i64 x)] (by kernel_rfl) (by kernel_rfl) (by simp [go_sem, *]) ?_
        intro hk; simp only [List.forall_mem_cons] at hk; obtain ⟨k1_0, kz⟩ := hk; clear kz
        repeat go_big_quiet_step (fail)
        refine wpQuiet_nil ?_
        rintro w2 ⟨u1, rfl⟩
        have HU1 := Lib.hid u1.h
        clear k1_0
        go_wp2_with fail
        go_ret
        exact ⟨ret_bool (by rw [HS.out, HD.out, atomsGo_cons, decide_eq_false (show ¬ 1 ≤ x by omega)]; simp), bel_trans HB.out HU1.out⟩
      · have p1 : decide (x < 1) = false := decide_eq_false h1
        by_cases h2 : n < x
        · have p2 : decide (n < x) = true := decide_eq_true h2
          go_wp2_with fail
          refine wp_region_later [(⟨b, off + k, none⟩, .int .i64 x)] (by kernel_rfl) (by kernel_rfl) (by simp [go_sem, *]) ?_
          intro hk; simp only [List.forall_mem_cons] at hk; obtain ⟨k1_0, kz⟩ := hk; clear kz
          repeat go_big_quiet_step (fail)
          refine wpQuiet_nil ?_
          rintro w2 ⟨u1, rfl⟩
          have HU1 := Lib.hid u1.h
          clear k1_0
          go_wp2_with fail
          go_ret
          exact ⟨ret_bool (by rw [HS.out, HD.out, atomsGo_cons, decide_eq_false (show ¬ x ≤ n by omega)]; simp), bel_trans HB.out HU1.out⟩
        · have p2 : decide (n < x) = false := decide_eq_false h2
          by_cases hk0 : k = 0
          · have q1 : decide (0 < (k : Int)) = false := decide_eq_false (by omega)
            have q2 : decide (0 < k) = false := decide_eq_false (by omega)
            have HK := Lib.hid hk0
            clear hk0
            go_wp2_with fail
            refine wp_region_later [(⟨b, off + k, none⟩, .int .i64 x)] (by kernel_rfl) (by kernel_rfl) (by simp [go_sem, *]) ?_
            intro hk; simp only [List.forall_mem_cons] at hk; obtain ⟨k1_0, kz⟩ := hk; clear kz
            repeat go_big_quiet_step (fail)
            refine wpQuiet_nil ?_
            rintro w2 ⟨u1, rfl⟩
            have HU1 := Lib.hid u1.h
            clear k1_0
            go_wp2_with fail
            go_roundw
            case rel => exact ⟨k + 1, by omega, by go_num, bel_trans HB.out HU1.out, by rw [HS.out, HD.out, atomsGo_cons, decide_eq_true (show 1 ≤ x by omega), decide_eq_true (show x ≤ n by omega), prevAt_succ, HX.out, HK.out]; rfl⟩
            case measure => simp [intOf]; omega
          · obtain ⟨j, rfl⟩ : ∃ j, k = j + 1 := ⟨k - 1, by omega⟩
            obtain ⟨y, hy, _⟩ := H.out.drop (k := j) (by omega)
            obtain ⟨b2, off2, he2, _, hcell2, _⟩ := H1.out.int hy
            cases he2
            have HYY := Lib.hid hy; clear hy
            have e1 : IntKind.i64.wrap ((j : Int) + 1 - 1) = j := by rw [IntWalk.i64_in _ (by omega)]; omega
            have q1 : decide (0 < (j : Int) + 1) = true := decide_eq_true (by omega)
            have q2 : decide (0 < j + 1) = true := decide_eq_true (by omega)
            by_cases h3 : x ≤ y
            · have p3 : decide (x ≤ y) = true := decide_eq_true h3
              go_wp2_with fail
              refine wp_region_later [(⟨b, off + (j + 1), none⟩, .int .i64 x), (⟨b, off + j, none⟩, .int .i64 y)] (by kernel_rfl) (by kernel_rfl) (by simp [go_sem, *]) ?_
              intro hk; simp only [List.forall_mem_cons] at hk; obtain ⟨k1_0, k1_1, kz⟩ := hk; clear kz
              repeat go_big_quiet_step (fail)
              refine wpQuiet_nil ?_
              rintro w2 ⟨u1, rfl⟩
              have HU1 := Lib.hid u1.h
              clear k1_0 k1_1
              go_wp2_with fail
              go_ret
              exact ⟨ret_bool (by rw [HS.out, HD.out, atomsGo_cons, prevAt_succ, HYY.out]; have : ¬ y < x := (by omega); simp [this]), bel_trans HB.out HU1.out⟩
            · have p3 : decide (x ≤ y) = false := decide_eq_false h3
              go_wp2_with fail
              refine wp_region_later [(⟨b, off + (j + 1), none⟩, .int .i64 x), (⟨b, off + j, none⟩, .int .i64 y)] (by kernel_rfl) (by kernel_rfl) (by simp [go_sem, *]) ?_
              intro hk; simp only [List.forall_mem_cons] at hk; obtain ⟨k1_0, k1_1, kz⟩ := hk; clear kz
              repeat go_big_quiet_step (fail)
              refine wpQuiet_nil ?_
              rintro w2 ⟨u1, rfl⟩
              have HU1 := Lib.hid u1.h
              clear k1_0 k1_1
              go_wp2_with fail
              go_roundw
              case rel => exact ⟨j + 2, by omega, by go_num, bel_trans HB.out HU1.out, by rw [HS.out, HD.out, atomsGo_cons, decide_eq_true (show 1 ≤ x by omega), decide_eq_true (show x ≤ n by omega), prevAt_succ, HYY.out, prevAt_succ, HX.out]; have : y < x := (by omega); simp [this]⟩
              case measure => simp [intOf]; omega
    · go_wp2
      go_ret
      exact ⟨ret_bool (by rw [HS.out, H.out.stop (by omega)]; rfl), HB.out⟩
end Go.Proofs.Ytcbkkjcleiibfaa

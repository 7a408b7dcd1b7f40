/- Contract: stable.Better. -/
import Derived.Test.YtdmcclfagjgcgaaGreatSw3
import Derived.Test.YtdmcclfagjgcgaaGreatG6
namespace Go.Proofs.YtdmcclfagjgcgaaGreat
open Go.RowKit

theorem betB_cons (x y : Int) (r t : List Int) : betB (x :: r) (y :: t) = if x = y then betB r t else decide (x < y) := rfl
theorem betB_nil (xs : List Int) : betB xs [] = false := by cases xs <;> rfl
theorem betB_nil' (ys : List Int) : betB [] ys = false := by cases ys <;> rfl
/-- The first sign tells; without one the rest does. -/
def betS (ss xs ys : List Int) : Bool := match ss with
  | [] => betB xs ys
  | s :: _ => decide (s < 0)
theorem betS_app (ss : List Int) (z : Int) (xs ys xs' ys' : List Int) (h : betB xs ys = decide (z < 0)) : betS (ss ++ [z]) xs' ys' = betS ss xs ys := by
  cases ss with
  | nil => exact h.symm
  | cons s t => rfl
theorem betS_first {ss : List Int} (h : ∀ s ∈ ss, s ≠ 0) {xs ys : List Int} (h2 : betB xs ys = false) : betS ss xs ys = decide (firstG ss < 0) := by
  cases ss with
  | nil => exact h2
  | cons s t =>
    have := h s (by simp)
    unfold betS firstG
    rw [if_pos this]
set_option maxRecDepth 100000 in
set_option maxHeartbeats 2000000 in
theorem better_any (aA : Option Addr) (al ac : Nat) (bA : Option Addr) (bl bc : Nat) (xs ys : List Int) (w : World) (ha : SlIs intR w aA al ac xs) (hb : SlIs intR w bA bl bc ys) :
    Calls Tryz.prog 79 #[.slice aA al ac, .slice bA bl bc] w fun e w' => e = .returned (.bool (betB xs ys)) ∧ Below w.heap.size w w' := by
  have hl := ha.cap
  have hm := ha.max
  have hl2 := hb.cap
  have hm2 := hb.max
  have hsm := ha.small
  obtain ⟨q, hq⟩ : ∃ q : Nat, q = min al bl := ⟨_, rfl⟩
  have hmin : min (al : Int) (bl : Int) = (q : Int) := by omega
  have q1 : q ≤ al := by omega
  have q2 : q ≤ bl := by omega
  have HQ := Lib.hid hq
  clear hq
  have HA := Lib.hid ha; clear ha
  have HB := Lib.hid hb; clear hb
  go_enter Tryz.func79, Tryz.ntmps79
  go_wp2_with fail
  go_loopw [5, 12] (fun v t wr => ∃ (k lv : Nat) (ss : List Int), k ≤ q ∧ t = .int .i64 (k : Int) ∧ OwnI wr w.heap.size v lv ss ∧ lv ≤ k ∧ Below w.heap.size w wr ∧ (∀ s ∈ ss, s = -1 ∨ s = 1) ∧ betB xs ys = betS ss (xs.drop k) (ys.drop k)) (fun _ t _ => q - (intOf t).toNat)
  case atStart => exact ⟨0, 0, [], Nat.zero_le _, rfl, OwnI.nil _ _, Nat.le_refl _, Below.refl _ _, by simp, rfl⟩
  case round =>
    obtain ⟨k, lv, ss, hk, rfl, ho, hlv, hbw, hss, hs⟩ := hrel
    have hsz := hbw.size
    by_cases hlt : k < q
    · obtain ⟨x, hx, hd⟩ := HA.out.drop (show k < al by omega)
      obtain ⟨y, hy, hdy⟩ := HB.out.drop (show k < bl by omega)
      obtain ⟨b1, o1, rfl, _, cx, _⟩ := (HA.out.ext hbw).int hx
      obtain ⟨b2, o2, rfl, _, cy, _⟩ := (HB.out.ext hbw).int hy
      have k0 : (0 : Int) ≤ (k : Int) := by omega
      have k1 : (k : Int) < (al : Int) := by omega
      have k2 : (k : Int) < (bl : Int) := by omega
      have k3 : (k : Int) < (q : Int) := by omega
      rw [hd, hdy] at hs
      by_cases h1 : x < y
      · have e1 : decide (x < y) = true := decide_eq_true h1
        have hs' : betB xs ys = betS (ss ++ [-1]) (xs.drop (k + 1)) (ys.drop (k + 1)) := by rw [hs]; exact (betS_app ss (-1) _ _ _ _ (by rw [betB_cons, if_neg (by omega)]; simp [h1])).symm
        have HX := Lib.hid hx; clear hx
        have HD := Lib.hid hd; clear hd
        have HY := Lib.hid hy; clear hy
        have HDY := Lib.hid hdy; clear hdy
        have HS := Lib.hid hs; clear hs
        have HS' := Lib.hid hs'; clear hs'
        go_wp2_with fail
        refine wp_region_later [(⟨b1, o1 + k, none⟩, .int .i64 x), (⟨b2, o2 + k, none⟩, .int .i64 y)] (by kernel_rfl) (by kernel_rfl) (by simp [go_sem, *]) ?_
        intro hk; simp only [List.forall_mem_cons] at hk; obtain ⟨k1_0, k1_1, kz⟩ := hk; clear kz
        repeat go_big_quiet_step (fail)
        refine wpQuiet_nil ?_
        rintro w2 ⟨u1, rfl⟩
        have HU1 := Lib.hid u1.h
        clear k1_0 k1_1
        have hbu := bel_trans hbw HU1.out
        obtain ⟨v1, w3, hrun, own1, hg1, hat1⟩ := app1 (ho.bel HU1.out) (-1) (by omega) hbu.size 23
        have hb3 := bel_grown hbu hg1 hbu.size (fun z hz => (ho.2.lt z hz).1)
        have HO := Lib.hid ho; clear ho
        have HBW := Lib.hid hbw; clear hbw
        have HSS := Lib.hid hss; clear hss
        have HBU := Lib.hid hbu; clear hbu
        have HRUN := Lib.hid hrun; clear hrun
        have OWN1 := Lib.hid own1; clear own1
        have HG1 := Lib.hid hg1; clear hg1
        have HAT1 := Lib.hid hat1; clear hat1
        have HB3 := Lib.hid hb3; clear hb3
        go_wp2_with (at_builtin; refine wpList_append_run rfl _ _ _ rfl _ _ rfl rfl _ _ HRUN.out ?_)
        go_roundw
        case rel => exact ⟨k + 1, _, _, by omega, by go_num, OWN1.out, by omega, HB3.out, fun s h => by
          rcases List.mem_append.1 h with h | h
          · exact HSS.out s h
          · simp at h; exact .inl h, HS'.out⟩
        case measure => simp [intOf]; omega
      · have e1 : decide (x < y) = false := decide_eq_false h1
        by_cases h2 : y < x
        · have e2 : decide (y < x) = true := decide_eq_true h2
          have hs' : betB xs ys = betS (ss ++ [1]) (xs.drop (k + 1)) (ys.drop (k + 1)) := by rw [hs]; exact (betS_app ss 1 _ _ _ _ (by rw [betB_cons, if_neg (by omega)]; simp; omega)).symm
          have HX := Lib.hid hx; clear hx
          have HD := Lib.hid hd; clear hd
          have HY := Lib.hid hy; clear hy
          have HDY := Lib.hid hdy; clear hdy
          have HS := Lib.hid hs; clear hs
          have HS' := Lib.hid hs'; clear hs'
          go_wp2_with fail
          refine wp_region_later [(⟨b1, o1 + k, none⟩, .int .i64 x), (⟨b2, o2 + k, none⟩, .int .i64 y)] (by kernel_rfl) (by kernel_rfl) (by simp [go_sem, *]) ?_
          intro hk; simp only [List.forall_mem_cons] at hk; obtain ⟨k1_0, k1_1, kz⟩ := hk; clear kz
          repeat go_big_quiet_step (fail)
          refine wpQuiet_nil ?_
          rintro w2 ⟨u1, rfl⟩
          have HU1 := Lib.hid u1.h
          clear k1_0 k1_1
          have hbu := bel_trans hbw HU1.out
          have cx2 := (HU1.out.cell (World.block_lt_of_cell? _ _ cx)).trans cx
          have cy2 := (HU1.out.cell (World.block_lt_of_cell? _ _ cy)).trans cy
          have ho2 := ho.bel HU1.out
          clear cx cy
          go_wp2_with fail
          refine wp_region_later [(⟨b1, o1 + k, none⟩, .int .i64 x), (⟨b2, o2 + k, none⟩, .int .i64 y)] (by kernel_rfl) (by kernel_rfl) (by simp [go_sem, *]) ?_
          intro hk; simp only [List.forall_mem_cons] at hk; obtain ⟨k2_0, k2_1, kz⟩ := hk; clear kz
          repeat go_big_quiet_step (fail)
          refine wpQuiet_nil ?_
          rintro w2 ⟨u2, rfl⟩
          have HU2 := Lib.hid u2.h
          clear k2_0 k2_1
          have hbv := bel_trans hbu HU2.out
          obtain ⟨v1, w3, hrun, own1, hg1, hat1⟩ := app1 (ho2.bel HU2.out) 1 (by omega) hbv.size 23
          have hb3 := bel_grown hbv hg1 hbv.size (fun z hz => (ho2.2.lt z hz).1)
          have HO := Lib.hid ho; clear ho
          have HO2 := Lib.hid ho2; clear ho2
          have HBW := Lib.hid hbw; clear hbw
          have HSS := Lib.hid hss; clear hss
          have HBU := Lib.hid hbu; clear hbu
          have HBV := Lib.hid hbv; clear hbv
          have HRUN := Lib.hid hrun; clear hrun
          have OWN1 := Lib.hid own1; clear own1
          have HG1 := Lib.hid hg1; clear hg1
          have HAT1 := Lib.hid hat1; clear hat1
          have HB3 := Lib.hid hb3; clear hb3
          go_wp2_with (at_builtin; refine wpList_append_run rfl _ _ _ rfl _ _ rfl rfl _ _ HRUN.out ?_)
          go_roundw
          case rel => exact ⟨k + 1, _, _, by omega, by go_num, OWN1.out, by omega, HB3.out, fun s h => by
            rcases List.mem_append.1 h with h | h
            · exact HSS.out s h
            · simp at h; exact .inr h, HS'.out⟩
          case measure => simp [intOf]; omega
        · have e2 : decide (y < x) = false := decide_eq_false h2
          have hxy : x = y := by omega
          have hs' : betB xs ys = betS ss (xs.drop (k + 1)) (ys.drop (k + 1)) := by
            rw [hs]
            cases ss with
            | nil => show betB (x :: _) (y :: _) = _; rw [betB_cons, if_pos hxy]; rfl
            | cons s t => rfl
          have HX := Lib.hid hx; clear hx
          have HD := Lib.hid hd; clear hd
          have HY := Lib.hid hy; clear hy
          have HDY := Lib.hid hdy; clear hdy
          have HS := Lib.hid hs; clear hs
          have HS' := Lib.hid hs'; clear hs'
          have HXY := Lib.hid hxy; clear hxy
          go_wp2_with fail
          refine wp_region_later [(⟨b1, o1 + k, none⟩, .int .i64 x), (⟨b2, o2 + k, none⟩, .int .i64 y)] (by kernel_rfl) (by kernel_rfl) (by simp [go_sem, *]) ?_
          intro hk; simp only [List.forall_mem_cons] at hk; obtain ⟨k1_0, k1_1, kz⟩ := hk; clear kz
          repeat go_big_quiet_step (fail)
          refine wpQuiet_nil ?_
          rintro w2 ⟨u1, rfl⟩
          have HU1 := Lib.hid u1.h
          clear k1_0 k1_1
          have hbu := bel_trans hbw HU1.out
          have cx2 := (HU1.out.cell (World.block_lt_of_cell? _ _ cx)).trans cx
          have cy2 := (HU1.out.cell (World.block_lt_of_cell? _ _ cy)).trans cy
          have ho2 := ho.bel HU1.out
          clear cx cy
          go_wp2_with fail
          refine wp_region_later [(⟨b1, o1 + k, none⟩, .int .i64 x), (⟨b2, o2 + k, none⟩, .int .i64 y)] (by kernel_rfl) (by kernel_rfl) (by simp [go_sem, *]) ?_
          intro hk; simp only [List.forall_mem_cons] at hk; obtain ⟨k2_0, k2_1, kz⟩ := hk; clear kz
          repeat go_big_quiet_step (fail)
          refine wpQuiet_nil ?_
          rintro w2 ⟨u2, rfl⟩
          have HU2 := Lib.hid u2.h
          clear k2_0 k2_1
          have hbv := bel_trans hbu HU2.out
          have ho3 := ho2.bel HU2.out
          have HO := Lib.hid ho; clear ho
          have HO2 := Lib.hid ho2; clear ho2
          have HBW := Lib.hid hbw; clear hbw
          have HSS := Lib.hid hss; clear hss
          have HBU := Lib.hid hbu; clear hbu
          have HBV := Lib.hid hbv; clear hbv
          have HO3 := Lib.hid ho3; clear ho3
          go_wp2_with fail
          go_roundw
          case rel => exact ⟨k + 1, _, _, by omega, by go_num, HO3.out, by omega, HBV.out, HSS.out, HS'.out⟩
          case measure => simp [intOf]; omega
    · have hend : betB (xs.drop k) (ys.drop k) = false := by
        by_cases hc : al ≤ bl
        · rw [HA.out.stop (show al ≤ k by have := HQ.out; omega)]; exact betB_nil' _
        · rw [HB.out.stop (show bl ≤ k by have := HQ.out; omega)]; exact betB_nil _
      rw [betS_first (fun s h => by rcases hss s h with h | h <;> omega) hend] at hs
      obtain ⟨vA, vc, rfl, hsv⟩ := ho.sl (by omega) (fun s h => by rcases hss s h with h | h <;> subst h <;> simp [I64])
      have cC := first_any vA lv vc ss wr hsv
      have hbd : -1 ≤ firstG ss ∧ firstG ss ≤ 1 := by
        cases ss with
        | nil => simp [firstG]
        | cons s t =>
          have := hss s (by simp)
          unfold firstG
          rcases this with h | h <;> subst h <;> simp
      generalize firstG ss = g at *
      obtain ⟨hg1, hg2⟩ := hbd
      have HS := Lib.hid hs; clear hs
      have HEND := Lib.hid hend; clear hend
      have HSS := Lib.hid hss; clear hss
      have HSV := Lib.hid hsv; clear hsv
      have CC := Lib.hid cC; clear cC
      have HO := Lib.hid ho; clear ho
      have HBW := Lib.hid hbw; clear hbw
      go_wp2_with fail
      go_fit CC.out; rintro e w' ⟨rfl, rfl⟩
      go_wp2_with fail
      go_ret
      exact ⟨ret_bool (by rw [HS.out]), HBW.out⟩
end Go.Proofs.YtdmcclfagjgcgaaGreat

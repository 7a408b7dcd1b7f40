/- Contracts: ostlerlaw20.Has and before. -/
import Derived.Test.YtfopcpmckplemaaGreatSl1
namespace Go.Proofs.YtfopcpmckplemaaGreat
open Go.RowKit

theorem any_take' {α : Type} {l : List α} {k : Nat} {x : α} {f : α → Bool} (h : l[k]? = some x) : (l.take (k + 1)).any f = ((l.take k).any f || f x) := by rw [take_snoc' h, List.any_append]; simp
set_option maxRecDepth 100000 in
set_option maxHeartbeats 1000000 in
theorem hasM_any (aA : Option Addr) (al ac : Nat) (bA : Option Addr) (bl bc : Nat) (xs : List (List Int)) (m : List Int) (w : World) (ha : SlIs (slR intR) w aA al ac xs) (hb : SlIs intR w bA bl bc m) :
    Calls Tryz.prog 28 #[.slice aA al ac, .slice bA bl bc] w fun e w' => e = .returned (.bool (decide (m ∈ xs))) ∧ Below w.heap.size w w' := by
  have hl := ha.cap
  have hm := ha.max
  have la := Lib.hid ha.len
  have HA := Lib.hid ha; clear ha
  have HB := Lib.hid hb; clear hb
  go_enter Tryz.func28, Tryz.ntmps28
  go_wp2
  go_loopw [9] (fun i wr => ∃ k : Nat, k ≤ al ∧ i = .int .i64 k ∧ Below w.heap.size w wr ∧ (xs.take k).any (fun x => decide (x = m)) = false) (fun i _ => al - (intOf i).toNat)
  case atStart => exact ⟨0, Nat.zero_le _, rfl, Below.refl _ _, by simp⟩
  case round =>
    obtain ⟨k, hk, rfl, hbw, hs⟩ := hrel
    by_cases hlt : k < al
    · obtain ⟨x, hx, -⟩ := HA.out.drop hlt
      obtain ⟨b, off, hA, hl', hc, rfl, _, f0, g1⟩ := (HA.out.ext hbw).set hx
      have i0 : (0 : Int) ≤ (k : Int) := by omega
      have i1 : (k : Int) < (al : Int) := by omega
      have hst := any_take' (f := fun x => decide (x = m)) hx
      have cI := lawInts_any hA hl' hc bA bl bc x m wr g1 (HB.out.ext hbw)
      by_cases he : x = m
      · rw [decide_eq_true he] at cI
        have hmem : m ∈ xs := he ▸ List.mem_of_getElem? hx
        have HX := Lib.hid hx; clear hx
        have HS := Lib.hid hs; clear hs
        have HBW := Lib.hid hbw; clear hbw
        have G1 := Lib.hid g1; clear g1
        have HST := Lib.hid hst; clear hst
        have CI := Lib.hid cI; clear cI
        have HE := Lib.hid he; clear he
        have HMEM := Lib.hid hmem; clear hmem
        go_wp2_with fail
        go_fit CI.out; rintro e w1 ⟨rfl, hb1⟩
        have HB1 := Lib.hid (bel_trans HBW.out hb1)
        clear hb1
        go_wp2_with fail
        go_ret
        exact ⟨ret_bool (decide_eq_true HMEM.out).symm, HB1.out⟩
      · rw [decide_eq_false he] at cI
        rw [hs, decide_eq_false he] at hst
        have HX := Lib.hid hx; clear hx
        have HS := Lib.hid hs; clear hs
        have HBW := Lib.hid hbw; clear hbw
        have G1 := Lib.hid g1; clear g1
        have HST := Lib.hid hst; clear hst
        have CI := Lib.hid cI; clear cI
        have HE := Lib.hid he; clear he
        go_wp2_with fail
        go_fit CI.out; rintro e w1 ⟨rfl, hb1⟩
        have HB1 := Lib.hid (bel_trans HBW.out hb1)
        clear hb1
        go_wp2_with fail
        go_roundw
        case rel => exact ⟨k + 1, by omega, by go_num, HB1.out, HST.out⟩
        case measure => simp [intOf]; omega
    · have hnm : decide (m ∈ xs) = false := by
        rw [List.take_of_length_le (by have := la.out; omega)] at hs
        rw [decide_eq_false_iff_not]
        intro hm
        rw [List.any_eq_false] at hs
        exact hs m hm (by simp)
      have HBW := Lib.hid hbw
      clear hbw
      have HS := Lib.hid hs; clear hs
      have HNM := Lib.hid hnm; clear hnm
      go_wp2
      go_ret
      exact ⟨ret_bool HNM.out.symm, HBW.out⟩
theorem lexLt_cons (a b : Int) (r t : List Int) : lexLt (a :: r) (b :: t) = if a = b then lexLt r t else decide (a < b) := rfl
set_option maxRecDepth 100000 in
set_option maxHeartbeats 1000000 in
theorem before_any (aA : Option Addr) (al ac : Nat) (bA : Option Addr) (bl bc : Nat) (xs ys : List Int) (w : World) (ha : SlIs intR w aA al ac xs) (hb : SlIs intR w bA bl bc ys) :
    Calls Tryz.prog 29 #[.slice aA al ac, .slice bA bl bc] w fun e w' => e = .returned (.bool (lexLt xs ys)) ∧ Below w.heap.size w w' := by
  have hl := ha.cap
  have hm := ha.max
  have hl2 := hb.cap
  have hm2 := hb.max
  have la := Lib.hid ha.len
  have lb := Lib.hid hb.len
  have HA := Lib.hid ha; clear ha
  have HB := Lib.hid hb; clear hb
  go_enter Tryz.func29, Tryz.ntmps29
  go_wp2
  go_loopw [8] (fun i wr => ∃ k : Nat, k ≤ al ∧ k ≤ bl ∧ i = .int .i64 k ∧ Below w.heap.size w wr ∧ lexLt xs ys = lexLt (xs.drop k) (ys.drop k)) (fun i _ => al - (intOf i).toNat)
  case atStart => exact ⟨0, Nat.zero_le _, Nat.zero_le _, rfl, Below.refl _ _, rfl⟩
  case round =>
    obtain ⟨k, hk, hk2, rfl, hbw, hs⟩ := hrel
    by_cases hlt : k < al
    · obtain ⟨x, hx, hd⟩ := HA.out.drop hlt
      have i0 : (0 : Int) ≤ (k : Int) := by omega
      have i1 : (k : Int) < (al : Int) := by omega
      by_cases hlt2 : k < bl
      · obtain ⟨y, hy, hd2⟩ := HB.out.drop hlt2
        obtain ⟨b1, o1, rfl, _, cx, _⟩ := (HA.out.ext hbw).int hx
        obtain ⟨b2, o2, rfl, _, cy, _⟩ := (HB.out.ext hbw).int hy
        have i2 : (k : Int) < (bl : Int) := by omega
        rw [hd, hd2] at hs
        by_cases he : x = y
        · have hs' : lexLt xs ys = lexLt (xs.drop (k + 1)) (ys.drop (k + 1)) := by rw [hs, lexLt_cons, if_pos he]
          have e1 : (x != y) = false := by simp [he]
          have HX := Lib.hid hx; clear hx
          have HY := Lib.hid hy; clear hy
          have HD := Lib.hid hd; clear hd
          have HD2 := Lib.hid hd2; clear hd2
          have HS := Lib.hid hs; clear hs
          have HS' := Lib.hid hs'; clear hs'
          have HBW := Lib.hid hbw; clear hbw
          have HE := Lib.hid he; clear he
          go_wp2_with fail
          refine wp_region_later [(⟨b1, o1 + k, none⟩, .int .i64 x), (⟨b2, o2 + k, none⟩, .int .i64 y)] (by kernel_rfl) (by kernel_rfl) (by simp [go_sem, *]) ?_
          intro hk; simp only [List.forall_mem_cons] at hk; obtain ⟨k1_0, k1_1, kz⟩ := hk; clear kz
          repeat go_big_quiet_step (fail)
          refine wpQuiet_nil ?_
          rintro w2 ⟨u1, rfl⟩
          have HU1 := Lib.hid u1.h
          clear k1_0 k1_1
          go_wp2_with fail
          go_roundw
          case rel => exact ⟨k + 1, by omega, by omega, by go_num, bel_trans HBW.out HU1.out, HS'.out⟩
          case measure => simp [intOf]; omega
        · have hs' : lexLt xs ys = decide (x < y) := by rw [hs, lexLt_cons, if_neg he]
          have e1 : (x != y) = true := by simp [he]
          have HX := Lib.hid hx; clear hx
          have HY := Lib.hid hy; clear hy
          have HD := Lib.hid hd; clear hd
          have HD2 := Lib.hid hd2; clear hd2
          have HS := Lib.hid hs; clear hs
          have HS' := Lib.hid hs'; clear hs'
          have HE := Lib.hid he; clear he
          go_wp2_with fail
          refine wp_region_later [(⟨b1, o1 + k, none⟩, .int .i64 x), (⟨b2, o2 + k, none⟩, .int .i64 y)] (by kernel_rfl) (by kernel_rfl) (by simp [go_sem, *]) ?_
          intro hk; simp only [List.forall_mem_cons] at hk; obtain ⟨k1_0, k1_1, kz⟩ := hk; clear kz
          repeat go_big_quiet_step (fail)
          refine wpQuiet_nil ?_
          rintro w2 ⟨u1, rfl⟩
          have HU1 := Lib.hid u1.h
          clear k1_0 k1_1
          have cx2 := (HU1.out.cell (World.block_lt_of_cell? _ _ cx)).trans cx
          have cy2 := (HU1.out.cell (World.block_lt_of_cell? _ _ cy)).trans cy
          have HBU := Lib.hid (bel_trans hbw HU1.out)
          clear cx cy hbw
          go_wp2_with fail
          refine wp_region_later [(⟨b1, o1 + k, none⟩, .int .i64 x), (⟨b2, o2 + k, none⟩, .int .i64 y)] (by kernel_rfl) (by kernel_rfl) (by simp [go_sem, *]) ?_
          intro hk; simp only [List.forall_mem_cons] at hk; obtain ⟨k2_0, k2_1, kz⟩ := hk; clear kz
          repeat go_big_quiet_step (fail)
          refine wpQuiet_nil ?_
          rintro w2 ⟨u2, rfl⟩
          have HU2 := Lib.hid u2.h
          clear k2_0 k2_1
          go_wp2_with fail
          go_ret
          exact ⟨ret_bool (by rw [HS'.out]), bel_trans HBU.out HU2.out⟩
      · have hz := HB.out.stop (k := k) (by omega)
        have hr : lexLt xs ys = false := by rw [hs, hz, hd]; rfl
        have HBW := Lib.hid hbw
        clear hbw
        have i2 : ¬ (k : Int) < (bl : Int) := by omega
        have i3 : (bl : Int) ≤ (k : Int) := by omega
        have HX := Lib.hid hx; clear hx
        have HD := Lib.hid hd; clear hd
        have HS := Lib.hid hs; clear hs
        have HZ := Lib.hid hz; clear hz
        have HR := Lib.hid hr; clear hr
        go_wp2
        go_ret
        exact ⟨ret_bool HR.out.symm, HBW.out⟩
    · have hz := HA.out.stop (k := k) (by omega)
      have hka : k = al := by omega
      have hr : lexLt xs ys = decide (al < bl) := by
        rw [hs, hz]
        by_cases h2 : k < bl
        · obtain ⟨y, hy, hd2⟩ := HB.out.drop h2
          rw [hd2, decide_eq_true (by omega)]; rfl
        · rw [HB.out.stop (k := k) (by omega), decide_eq_false (by omega)]; rfl
      have HBW := Lib.hid hbw
      clear hbw
      have HS := Lib.hid hs; clear hs
      have HZ := Lib.hid hz; clear hz
      have HR := Lib.hid hr; clear hr
      have HKA := Lib.hid hka; clear hka
      go_wp2
      go_ret
      exact ⟨ret_bool (by rw [HR.out]), HBW.out⟩
end Go.Proofs.YtfopcpmckplemaaGreat

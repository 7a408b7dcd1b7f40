/- The contract of ostlerlaw19.Subset. -/
import Derived.Test.YtcbkkjcleiibfaaOwn
import Derived.Test.YtcbkkjcleiibfaaFrm
import Derived.Test.YtcbkkjcleiibfaaRf5
namespace Go.Proofs.Ytcbkkjcleiibfaa
open Go.RowKit

/-- Bit k of a number of 16 bits. -/
def bitB (bits : Int) (k : Nat) : Bool := Go.bits BinOp.and IntKind.u16 (bits / 2 ^ k) 1 == 1
def subL (bits : Int) (k : Nat) : List Int := ((List.range k).filter (bitB bits)).map (fun (i : Nat) => (i : Int) + 1)
def subsetL (n bits : Int) : List Int := subL bits (min n.toNat 16)
theorem subL_succ (bits : Int) (k : Nat) : subL bits (k + 1) = if bitB bits k then subL bits k ++ [(k : Int) + 1] else subL bits k := by
  unfold subL
  rw [List.range_succ, List.filter_append, List.map_append]
  by_cases h : bitB bits k = true <;> simp [h]
theorem subL_len (bits : Int) (k : Nat) : (subL bits k).length ≤ k := by
  unfold subL
  rw [List.length_map]
  have := List.length_filter_le (bitB bits) (List.range k)
  simpa using this
theorem subL_mem {bits : Int} {k : Nat} {x : Int} (h : x ∈ subL bits k) : 1 ≤ x ∧ x ≤ (k : Int) := by
  unfold subL at h
  obtain ⟨i, hi, rfl⟩ := List.mem_map.1 h
  have := List.mem_range.1 (List.mem_filter.1 hi).1
  omega
theorem subL_inc (bits n : Int) : ∀ k : Nat, (k : Int) ≤ n → ordGo n none (subL bits k) = true ∧ ∀ y, (∀ x ∈ subL bits k, x < y) → 1 ≤ y → y ≤ n → ordGo n none (subL bits k ++ [y]) = true := by
  have snoc : ∀ (l : List Int) (p : Option Int) (y : Int), ordGo n p l = true → (∀ x ∈ l, 0 < x ∧ x < y) → (∀ z, p = some z → 0 < z ∧ z < y) → 1 ≤ y → y ≤ n → ordGo n p (l ++ [y]) = true := by
    intro l
    have lt : ∀ a b : Int, 0 < a → a < b → litLt a b = true := fun a b h1 h2 => by
      unfold litLt absI
      rw [if_neg (by omega), if_neg (by omega)]
      simp; omega
    induction l with
    | nil =>
      intro p y _ _ hp h1 h2
      rw [List.nil_append, ordGo_cons]
      have : litB y n = true := by simp [litB]; omega
      rw [this]
      cases p with
      | none => rfl
      | some z => have := hp z rfl; simp [lt z y this.1 this.2, ordGo]
    | cons x r ih =>
      intro p y h hx hp h1 h2
      rw [List.cons_append, ordGo_cons]
      rw [ordGo_cons, Bool.and_eq_true] at h
      have hxx := hx x (by simp)
      rw [h.1, ih (some x) y h.2 (fun z hz => hx z (by simp [hz])) (fun z e => by cases e; exact hxx) h1 h2]
      rfl
  intro k
  induction k with
  | zero =>
    intro _
    exact ⟨rfl, fun y _ h1 h2 => snoc _ none y rfl (by simp [subL]) (by simp) h1 h2⟩
  | succ k ih =>
    intro hk
    have ih := ih (by omega)
    have h0 : ordGo n none (subL bits (k + 1)) = true := by
      rw [subL_succ]
      split
      · exact ih.2 _ (fun x hx => by have := subL_mem hx; omega) (by omega) (by omega)
      · exact ih.1
    exact ⟨h0, fun y hy h1 h2 => snoc _ none y h0 (fun x hx => ⟨by have := subL_mem hx; omega, hy x hx⟩) (by simp) h1 h2⟩
theorem subset_inc (n bits : Int) (h0 : 0 ≤ n) : incB n (subsetL n bits) = true := by
  unfold incB ordB subsetL
  rw [(subL_inc bits n _ (by omega)).1, Bool.true_and, List.all_eq_true]
  intro x hx
  have := subL_mem hx
  simp; omega

set_option maxRecDepth 100000 in
set_option maxHeartbeats 1000000 in
theorem subset_any (n bits : Int) (w : World) (hn : n ≤ 4000) (hn0 : 0 ≤ n) (_ : 0 ≤ bits) (_ : bits ≤ 65535) :
    Calls Try.prog 18 #[.int .i64 n, .int .u16 bits] w fun e w' => ∃ A l c, e = .returned (.slice A l c) ∧ SlIs intR w' A l c (subsetL n bits) ∧ Below w.heap.size w w' := by
  go_enter Try.func18, Try.ntmps18
  go_wp2
  go_loopw [5, 6] (fun v t wr => ∃ (k lv : Nat), k ≤ 16 ∧ (k : Int) ≤ n ∧ t = .int .i64 ((k : Int) + 1) ∧ OwnI wr w.heap.size v lv (subL bits k) ∧ Below w.heap.size w wr) (fun _ t _ => 17 - (intOf t).toNat)
  case atStart => exact ⟨0, 0, by omega, hn0, rfl, OwnI.nil _ _, Below.refl _ _⟩
  case round =>
    obtain ⟨k, lv, hk, hkn, rfl, hown, hbw⟩ := hrel
    have hlv : lv ≤ 16 := by rw [hown.len]; have := subL_len bits k; omega
    have hzz := hbw.size
    have hst := subL_succ bits k
    by_cases hlt : (k : Int) + 1 ≤ n ∧ k < 16
    · obtain ⟨h1, h2⟩ := hlt
      have h3 : (k : Int) + 1 ≤ 16 := by omega
      by_cases hbt : bitB bits k = true
      · rw [hbt, if_pos rfl] at hst
        have ht : (Go.bits BinOp.and IntKind.u16 (bits / 2 ^ k) 1 == 1) = true := hbt
        obtain ⟨v', w3, hrun, hown3, hg3, hat3⟩ := app1 hown ((k : Int) + 1) (by omega) hzz 24
        have hb3 := bel_grown hbw hg3 hzz (fun q hq => (hown.2.lt q hq).1)
        have HST := Lib.hid hst; clear hst
        have HOWN := Lib.hid hown; clear hown
        have HBW := Lib.hid hbw; clear hbw
        have HRUN := Lib.hid hrun; clear hrun
        have HOWN3 := Lib.hid hown3; clear hown3
        have HG3 := Lib.hid hg3; clear hg3
        have HAT3 := Lib.hid hat3; clear hat3
        have HB3 := Lib.hid hb3; clear hb3
        have HBT := Lib.hid hbt; clear hbt
        go_wp2_with (at_builtin; refine wpList_append_run rfl _ _ _ rfl _ _ rfl rfl _ _ HRUN.out ?_)
        go_roundw
        case rel => exact ⟨k + 1, lv + 1, by omega, by omega, by go_num, by rw [HST.out]; exact HOWN3.out, HB3.out⟩
        case measure => simp [intOf]; omega
      · have hbf : bitB bits k = false := by simpa using hbt
        rw [hbf] at hst
        have ht : (Go.bits BinOp.and IntKind.u16 (bits / 2 ^ k) 1 == 1) = false := hbf
        have HST := Lib.hid hst; clear hst
        have HOWN := Lib.hid hown; clear hown
        have HBW := Lib.hid hbw; clear hbw
        have HBT := Lib.hid hbt; clear hbt
        have HBF := Lib.hid hbf; clear hbf
        go_wp2_with fail
        go_roundw
        case rel => exact ⟨k + 1, lv, by omega, by omega, by go_num, by rw [HST.out]; exact HOWN.out, HBW.out⟩
        case measure => simp [intOf]; omega
    · have hkk : subL bits k = subsetL n bits := by unfold subsetL; congr 1; omega
      obtain ⟨vA, vc, hv, hsv⟩ := hown.sl (by omega) (fun x hx => by have := subL_mem hx; unfold I64; omega)
      rw [hkk] at hsv
      have hc : (¬ (k : Int) + 1 ≤ n) ∨ ((k : Int) + 1 ≤ n ∧ ¬ (k : Int) + 1 ≤ 16) := by omega
      have HST := Lib.hid hst; clear hst
      have HOWN := Lib.hid hown; clear hown
      have HBW := Lib.hid hbw; clear hbw
      have HKK := Lib.hid hkk; clear hkk
      have HV := Lib.hid hv; clear hv
      have HSV := Lib.hid hsv; clear hsv
      rcases hc with hc | ⟨hc, hc2⟩
      all_goals
        go_wp2_with fail
        refine bodyPost_ret (results_tmp rfl _ _ _) rfl ?_
        exact ⟨vA, lv, vc, by rw [← HV.out]; rfl, HSV.out, HBW.out⟩
end Go.Proofs.Ytcbkkjcleiibfaa

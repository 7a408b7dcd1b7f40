/- Contracts of gprog's tests on lists of literals and weights. -/
import Derived.Test.YtcbkkjcleiibfaaLeaf
namespace Go.Proofs.Ytcbkkjcleiibfaa
open Go.RowKit

/-- A new block of ints reads as the list. -/
theorem sl_new (w : World) (t : TypeId) (xs : List Int) (l : Nat) (hc : l = xs.length) (h : ∀ x ∈ xs, I64 x) (hm : l ≤ 17592186044416) :
    SlIs intR (w.alloc (.cells ((xs.map (Value.int .i64)).toArray) t)) (some ⟨w.heap.size, 0, none⟩) l l xs := by
  refine ⟨hc, Nat.le_refl _, ⟨show l ≤ 9223372036854775807 by omega, hm⟩, fun _ => ⟨_, rfl, by simp, fun i x hx => ⟨[.int .i64 x], ⟨rfl, h x (List.mem_of_getElem? hx)⟩, fun j u hu => ?_⟩⟩⟩
  match j, hu with
  | 0, hu =>
    simp at hu; subst hu
    rw [add_none]
    simp [intR, hx]
  | j + 1, hu => simp at hu

def litLt (a b : Int) : Bool := decide (absI a < absI b) || (decide (absI a = absI b) && decide (b < a))
def ordI (a b : Int) : Int := orI [cmpI (absI a) (absI b), cmpI b a]
theorem ordI_neg (a b : Int) : decide (0 ≤ ordI a b) = !litLt a b := by
  unfold ordI orI orI orI litLt cmpI
  rcases Int.lt_trichotomy (absI a) (absI b) with h | h | h
  · simp [h]
  · simp [h]; rcases Int.lt_trichotomy b a with h2 | h2 | h2
    · simp [h2]
    · simp [h2]
    · have : ¬ b < a := by omega
      simp [h2, this]
  · have h1 : ¬ absI a < absI b := by omega
    have h2 : ¬ absI a = absI b := by omega
    simp [h, h1, h2]

theorem cmpI_bd (a b : Int) : I64 (cmpI a b) := by unfold cmpI I64; split <;> (try split) <;> omega
set_option maxHeartbeats 400000 in
theorem order_any (a b : Int) (w : World) (h1 : -9223372036854775807 ≤ a) (h2 : a ≤ 9223372036854775807) (h3 : -9223372036854775807 ≤ b) (h4 : b ≤ 9223372036854775807) :
    Calls Try.prog 58 #[.int .i64 a, .int .i64 b] w fun e w' => e = .returned (.int .i64 (ordI a b)) ∧ Below w.heap.size w w' := by
  have hs := sl_new w 3 [cmpI (absI a) (absI b), cmpI b a] 2 rfl (by intro x hx; simp at hx; rcases hx with rfl | rfl <;> exact cmpI_bd _ _) (by omega)
  have HS := Lib.hid hs; clear hs
  go_enter Try.func58, Try.ntmps58
  go_wp2_with fail
  refine (atom_any a w h1 h2).mono ?_; rintro e w' ⟨rfl, rfl⟩
  go_wp2_with fail
  refine (atom_any b w h3 h4).mono ?_; rintro e w' ⟨rfl, rfl⟩
  go_wp2_with fail
  refine (compare_any _ _ w).mono ?_; rintro e w' ⟨rfl, rfl⟩
  go_wp2_with fail
  refine (compare_any _ _ w).mono ?_; rintro e w' ⟨rfl, rfl⟩
  go_wp2_with fail
  refine (or_any _ 2 2 [cmpI (absI a) (absI b), cmpI b a] _ HS.out).mono ?_; rintro e w' ⟨rfl, rfl⟩
  go_wp2_with fail
  go_ret
  exact ⟨rfl, (Below.refl _ _).alloc (Nat.le_refl _) _⟩

/-- The rest of a strictly ordered list of literals behind p. -/
def ordGo (n : Int) (p : Option Int) : List Int → Bool
  | [] => true
  | x :: r => litB x n && (match p with | none => true | some y => litLt y x) && ordGo n (some x) r
def ordB (n : Int) (xs : List Int) : Bool := ordGo n none xs
theorem ordGo_cons (n : Int) (p : Option Int) (x : Int) (r : List Int) : ordGo n p (x :: r) = (litB x n && (match p with | none => true | some y => litLt y x) && ordGo n (some x) r) := rfl
def prevAt {α : Type} (xs : List α) : Nat → Option α
  | 0 => none
  | j + 1 => xs[j]?
theorem prevAt_succ {α : Type} (xs : List α) (j : Nat) : prevAt xs (j + 1) = xs[j]? := rfl
theorem litB_bd {x n : Int} (h : litB x n = true) : -n ≤ x ∧ x ≤ n := by simp [litB] at h; exact h.2

set_option maxHeartbeats 1000000 in
theorem ordered_any (A : Option Addr) (l c : Nat) (xs : List Int) (n : Int) (w : World) (h : SlIs intR w A l c xs) (hn : 0 ≤ n) (hn2 : n ≤ 4000) :
    Calls Try.prog 35 #[.slice A l c, .int .i64 n] w fun e w' => e = .returned (.bool (ordB n xs)) ∧ Below w.heap.size w w' := by
  have hl := h.cap
  have hm := h.max
  have H := Lib.hid h; clear h
  go_enter Try.func35, Try.ntmps35
  go_wp2
  go_loopw [9] (fun i wr => ∃ k : Nat, k ≤ l ∧ i = .int .i64 k ∧ Below w.heap.size w wr ∧ (∀ y, prevAt xs k = some y → -n ≤ y ∧ y ≤ n) ∧ ordB n xs = ordGo n (prevAt xs k) (xs.drop k)) (fun i _ => l - (intOf i).toNat)
  case atStart => exact ⟨0, Nat.zero_le _, rfl, Below.refl _ _, by simp [prevAt], rfl⟩
  case round =>
    obtain ⟨k, hk, rfl, hbw, hy, hs⟩ := hrel
    have HS := Lib.hid hs; clear hs
    have HY := Lib.hid hy; clear hy
    have H1 := Lib.hid (H.out.ext hbw)
    have HB := Lib.hid hbw; clear hbw
    by_cases hlt : k < l
    · obtain ⟨x, hx, hd⟩ := H.out.drop hlt
      obtain ⟨b, off, rfl, _, hcell, _⟩ := H1.out.int hx
      have HX := Lib.hid hx; clear hx
      have HD := Lib.hid hd; clear hd
      have LIT := fun w => literal_any x n w hn hn2
      by_cases hlit : litB x n = true
      · rcases Nat.eq_zero_or_pos k with rfl | hk0
        · simp only [Nat.add_zero] at hcell
          clear hk
          go_wp2_with fail
          refine (LIT _).mono ?_; rintro e w' ⟨rfl, rfl⟩
          go_wp2_with fail
          go_roundw
          case rel => exact ⟨1, by omega, rfl, HB.out, by intro y h2; rw [prevAt_succ, HX.out] at h2; cases h2; exact litB_bd hlit, by rw [HS.out, HD.out, ordGo_cons, hlit, prevAt_succ, HX.out]; rfl⟩
          case measure => simp [intOf]; omega
        · obtain ⟨j, rfl⟩ : ∃ j, k = j + 1 := ⟨k - 1, by omega⟩
          obtain ⟨y, hy, _⟩ := H.out.drop (k := j) (by omega)
          have hyb := HY.out y hy
          have hxb := litB_bd hlit
          obtain ⟨b2, off2, he2, _, hcell2, _⟩ := H1.out.int hy
          cases he2
          have HYY := Lib.hid hy; clear hy
          have e1 : IntKind.i64.wrap ((j : Int) + 1 - 1) = j := by rw [IntWalk.i64_in _ (by omega)]; omega
          go_wp2_with fail
          refine (LIT _).mono ?_; rintro e w' ⟨rfl, rfl⟩
          go_wp2_with fail
          refine (order_any y x _ (by omega) (by omega) (by omega) (by omega)).mono ?_; rintro e w1 ⟨rfl, hb1⟩
          have HB1 := Lib.hid hb1; clear hb1
          by_cases hlt2 : litLt y x = true
          · have hd2 : decide (0 ≤ ordI y x) = false := by rw [ordI_neg, hlt2]; rfl
            go_wp2_with fail
            go_roundw
            case rel => exact ⟨j + 2, by omega, by go_num, HB.out.trans (HB1.out.mono HB.out.size), by intro z h2; rw [prevAt_succ, HX.out] at h2; cases h2; exact hxb, by rw [HS.out, HD.out, ordGo_cons, hlit, prevAt_succ, HYY.out, prevAt_succ, HX.out]; simp [hlt2]⟩
            case measure => simp [intOf]; omega
          · have hd2 : decide (0 ≤ ordI y x) = true := by rw [ordI_neg]; simpa using hlt2
            go_wp2_with fail
            go_ret
            exact ⟨ret_bool (by rw [HS.out, HD.out, ordGo_cons, hlit, prevAt_succ, HYY.out]; simp [hlt2]), HB.out.trans (HB1.out.mono HB.out.size)⟩
      · have hlf : litB x n = false := by simpa using hlit
        clear hlit
        go_wp2_with fail
        refine (LIT _).mono ?_; rintro e w' ⟨rfl, rfl⟩
        go_wp2_with fail
        go_ret
        exact ⟨ret_bool (by rw [HS.out, HD.out, ordGo_cons, hlf]; simp), HB.out⟩
    · go_wp2
      go_ret
      exact ⟨ret_bool (by rw [HS.out, H.out.stop (by omega)]; rfl), HB.out⟩

end Go.Proofs.Ytcbkkjcleiibfaa

/- Contracts of slices.Clone at ints, strings, rules, levels: what it makes is a row of the call's own, whose elements refer to what was there before. Printed by mkcln.py. -/
import Derived.Test.YtbfbkpoakmnlpaaOgn
namespace Go.Proofs.Ytbfbkpoakmnlpaa
open Go.RowKit

theorem ety_str : ElTy strR 22 9 (.string ByteArray.empty) 16 := ⟨Try.underlying22, by kernel_rfl, rfl, by omega⟩
theorem ety_min : ElTy minR 25 58 (.agg #[.int .i64 0, .slice none 0 0, .slice none 0 0]) 56 := ⟨Try.underlying25, by kernel_rfl, rfl, by omega⟩
/-- A row of the call's own, or nothing. -/
theorem SlIs.none0 {α : Type} {R : Rep α} {w : World} {l c : Nat} {xs : List α} (h : SlIs R w none l c xs) : l = 0 ∧ xs = [] := by
  have h0 : l = 0 := by
    rcases Nat.eq_zero_or_pos l with h0 | h0
    · exact h0
    · obtain ⟨ad, he, _⟩ := h.2.2.2 h0; cases he
  exact ⟨h0, List.eq_nil_of_length_eq_zero (by have := h.len; omega)⟩

set_option maxRecDepth 100000 in
set_option maxHeartbeats 1000000 in
theorem cloneI_own (lA : Option Addr) (ll lc : Nat) (xs : List Int) (w0 w : World) (h : SlIs intR w0 lA ll lc xs) (hb : Below w0.heap.size w0 w) (hl9 : ll ≤ 1000000) :
    Calls Try.prog 62 #[.slice lA ll lc] w fun e w' => ∃ A l c, e = .returned (.slice A l c) ∧ OwnB intR 3 w0 w.heap.size w' (.slice A l c) xs ∧ l = xs.length ∧ Below w.heap.size w w' := by
  have hl := h.cap
  have hm := h.max
  have hnil := fun W => Lib.run_eql_slice_nil (P := Try.prog) W 23 3 lA ll lc 0 0 Try.underlying23
  cases hA : lA with
  | none =>
    subst hA
    obtain ⟨rfl, rfl⟩ := h.none0
    have H := Lib.hid h; clear h
    have HB := Lib.hid hb; clear hb
    go_enter Try.func62, Try.ntmps62
    go_wp2_with fail
    refine bodyPost_ret (results_tmp rfl _ _ _) rfl ?_
    exact ⟨none, 0, 0, rfl, OwnB.nil HB.out HB.out.size (Nat.le_refl _), rfl, Below.refl _ _⟩
  | some ad =>
    subst hA
    have O0 : OwnB intR 3 w0 w.heap.size (w.alloc (.cells #[] 3)) (.slice (some ⟨w.heap.size, 0, none⟩) 0 0) ([] : List Int) := OwnB.empty hb hb.size (Nat.le_refl _) rfl
    obtain ⟨v1, w3, hrun1, own1, hg1, -⟩ := O0.appS ety_int h (by simp; omega) 23
    have hb3 : Below w.heap.size w w3 := bel_grown (bel_alloc _ _) hg1 (by simp) (fun k hk => by simp [Value.ownBlock] at hk; omega)
    rw [List.nil_append] at own1
    obtain ⟨A', c', hv, -⟩ := own1.sl (by have := h.len; omega)
    subst hv
    have H := Lib.hid h; clear h
    have HB := Lib.hid hb; clear hb
    have O0 := Lib.hid O0; clear O0
    have OWN1 := Lib.hid own1; clear own1
    have HG1 := Lib.hid hg1; clear hg1
    have HB3 := Lib.hid hb3; clear hb3
    have HRUN1 := Lib.hid hrun1; clear hrun1
    go_enter Try.func62, Try.ntmps62
    go_wp2_with (at_builtin; refine wpList_append_run rfl _ _ _ rfl _ _ rfl rfl _ _ HRUN1.out ?_)
    refine bodyPost_ret (results_tmp rfl _ _ _) rfl ?_
    exact ⟨A', _, c', rfl, OWN1.out, rfl, HB3.out⟩
end Go.Proofs.Ytbfbkpoakmnlpaa

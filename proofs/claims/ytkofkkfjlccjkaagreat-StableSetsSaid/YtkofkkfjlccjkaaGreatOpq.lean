/- A rule that comes in by value, and a list of sets: how they read. -/
import Derived.Test.YtkofkkfjlccjkaaGreatOpp
namespace Go.Proofs.YtkofkkfjlccjkaaGreat
open Go.ChangeShapes Go.WideShapes Go.ChangeAt Go.RowKit Go.Deep

set_option maxRecDepth 100000 in
theorem open_rule {H : Type} {enc : TypeId × Value → H} {W : World} {base n : Nat} {v : Value} {x : DataW H × List MemPlace} (hv : Value.okWide Tryz.prog W .any base 51 v)
    (h : DataW.trod enc Tryz.prog W 0 (fun _ => true) true n 51 v.cells.toList = some x) (hw : ∀ k ∈ x.1.weights Tryz.prog 51, k ≤ reachBytes) :
    ∃ (r : GRule) (hA : Option Addr) (hl hc : Nat) (bA : Option Addr) (bl bc : Nat) (wA : Option Addr) (wl wc : Nat), v = .agg #[.bool r.choice, .slice hA hl hc, .bool r.sum, .int .i64 r.bound, .slice bA bl bc, .slice wA wl wc] ∧ RuleIn W r hA hl hc bA bl bc wA wl wc := by
  obtain ⟨cs, rfl, _⟩ := okWide_struct Tryz.underlying51 hv
  obtain ⟨hl, m, hf⟩ := open_fields Tryz.underlying51 (by kernel_rfl) (by kernel_rfl) h hw
  obtain ⟨v0, y0, e0, h0, _⟩ := hf 0 _ rfl
  obtain ⟨v1, y1, e1, h1, k1⟩ := hf 1 _ rfl
  obtain ⟨v2, y2, e2, h2, _⟩ := hf 2 _ rfl
  obtain ⟨v3, y3, e3, h3, _⟩ := hf 3 _ rfl
  obtain ⟨v4, y4, e4, h4, k4⟩ := hf 4 _ rfl
  obtain ⟨v5, y5, e5, h5, k5⟩ := hf 5 _ rfl
  obtain ⟨b0, hb0, _⟩ := DataW.trod_bool Tryz.underlying4 h0
  obtain ⟨xs1, hA, hl', hc, hh, hi1⟩ := opens_ints h1 k1
  obtain ⟨b2, hb2, _⟩ := DataW.trod_bool Tryz.underlying4 h2
  obtain ⟨z3, hz3, _, hw3⟩ := DataW.trod_int Tryz.underlying3 h3
  obtain ⟨xs4, bA, bl, bc, hbb, hi4⟩ := opens_ints h4 k4
  obtain ⟨xs5, wA, wl, wc, hww, hi5⟩ := opens_ints h5 k5
  simp only [List.cons.injEq, and_true] at hb0 hb2 hz3 hh hbb hww
  subst hb0 hb2 hz3 hh hbb hww
  refine ⟨⟨b0, xs1, b2, z3, xs4, xs5⟩, hA, hl', hc, bA, bl, bc, wA, wl, wc, ?_, hi1, i64_of_wf hw3, hi4, hi5⟩
  obtain ⟨cs⟩ := cs
  match cs, hl, e0, e1, e2, e3, e4, e5 with
  | [a0, a1, a2, a3, a4, a5], _, e0, e1, e2, e3, e4, e5 =>
    simp [Value.cells] at e0 e1 e2 e3 e4 e5
    subst e0 e1 e2 e3 e4 e5
    rfl
set_option maxRecDepth 100000 in
theorem opens_intss : Opens (slR (slR intR)) 31 := opens_slice Tryz.underlying31 (by kernel_rfl) (by decide +kernel) opens_ints
end Go.Proofs.YtkofkkfjlccjkaaGreat

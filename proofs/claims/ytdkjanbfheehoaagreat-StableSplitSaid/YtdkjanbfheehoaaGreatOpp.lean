/- A program that comes in by value, and a byte: how they read. -/
import Derived.Test.YtdkjanbfheehoaaGreatOpn
namespace Go.Proofs.YtdkjanbfheehoaaGreat
open Go.ChangeShapes Go.WideShapes Go.ChangeAt Go.RowKit Go.Deep

set_option maxRecDepth 100000 in
theorem opens_min : Opens minR 38 := by
  intro H enc W n cs x h hw
  obtain ⟨hl, m, hf⟩ := open_fields Tryz.underlying38 (by kernel_rfl) (by kernel_rfl) h hw
  obtain ⟨v0, y0, e0, h0, _⟩ := hf 0 _ rfl
  obtain ⟨v1, y1, e1, h1, k1⟩ := hf 1 _ rfl
  obtain ⟨v2, y2, e2, h2, k2⟩ := hf 2 _ rfl
  obtain ⟨z0, hz0, _, hw0⟩ := DataW.trod_int Tryz.underlying3 h0
  obtain ⟨xs1, hi1⟩ := opens_ints h1 k1
  obtain ⟨xs2, hi2⟩ := opens_ints h2 k2
  simp only [List.cons.injEq, and_true] at hz0
  subst hz0
  refine ⟨⟨z0, xs1, xs2⟩, v1, v2, ?_, i64_of_wf hw0, hi1, hi2⟩
  match cs, hl, e0, e1, e2 with
  | [a0, a1, a2], _, e0, e1, e2 =>
    simp at e0 e1 e2
    subst e0 e1 e2
    rfl
set_option maxRecDepth 100000 in
theorem opens_mins : Opens (slR minR) 25 := opens_slice Tryz.underlying25 (by kernel_rfl) (by decide +kernel) opens_min
theorem opens_strs : Opens (slR strR) 22 := opens_slice Tryz.underlying22 (by kernel_rfl) (by decide +kernel) opens_str
set_option maxRecDepth 100000 in
theorem open_prog {H : Type} {enc : TypeId × Value → H} {W : World} {base n : Nat} {v : Value} {x : DataW H × List MemPlace} (hv : Value.okWide Tryz.prog W .any base 27 v)
    (h : DataW.trod enc Tryz.prog W 0 (fun _ => true) true n 27 v.cells.toList = some x) (hw : ∀ k ∈ x.1.weights Tryz.prog 27, k ≤ reachBytes) :
    ∃ (p : GProg) (nA : Option Addr) (nl nc : Nat) (sA : Option Addr) (sl sc : Nat) (rA : Option Addr) (rl rc : Nat) (mA : Option Addr) (ml mc : Nat), v = .agg #[.int .i64 p.n, .slice nA nl nc, .slice sA sl sc, .slice rA rl rc, .slice mA ml mc] ∧ ProgIn W p nA nl nc sA sl sc rA rl rc mA ml mc := by
  obtain ⟨cs, rfl, _⟩ := okWide_struct Tryz.underlying27 hv
  obtain ⟨hl, m, hf⟩ := open_fields Tryz.underlying27 (by kernel_rfl) (by kernel_rfl) h hw
  obtain ⟨v0, y0, e0, h0, _⟩ := hf 0 _ rfl
  obtain ⟨v1, y1, e1, h1, k1⟩ := hf 1 _ rfl
  obtain ⟨v2, y2, e2, h2, k2⟩ := hf 2 _ rfl
  obtain ⟨v3, y3, e3, h3, k3⟩ := hf 3 _ rfl
  obtain ⟨v4, y4, e4, h4, k4⟩ := hf 4 _ rfl
  obtain ⟨z0, hz0, _, hw0⟩ := DataW.trod_int Tryz.underlying3 h0
  obtain ⟨xs1, nA, nl, nc, hn, hi1⟩ := opens_strs h1 k1
  obtain ⟨xs2, sA, sl, sc, hs, hi2⟩ := opens_ints h2 k2
  obtain ⟨xs3, rA, rl, rc, hr, hi3⟩ := opens_rules h3 k3
  obtain ⟨xs4, mA, ml, mc, hm, hi4⟩ := opens_mins h4 k4
  simp only [List.cons.injEq, and_true] at hz0 hn hs hr hm
  subst hz0 hn hs hr hm
  refine ⟨⟨z0, xs1, xs2, xs3, xs4⟩, nA, nl, nc, sA, sl, sc, rA, rl, rc, mA, ml, mc, ?_, i64_of_wf hw0, hi1, hi2, hi3, hi4⟩
  obtain ⟨cs⟩ := cs
  match cs, hl, e0, e1, e2, e3, e4 with
  | [a0, a1, a2, a3, a4], _, e0, e1, e2, e3, e4 =>
    simp [Value.cells] at e0 e1 e2 e3 e4
    subst e0 e1 e2 e3 e4
    rfl
end Go.Proofs.YtdkjanbfheehoaaGreat

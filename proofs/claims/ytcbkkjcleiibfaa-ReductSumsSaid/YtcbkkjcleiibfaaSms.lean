/- ReductSums (plain): a body without weights as a sum; a literal and its negation together; a factor. -/
import Derived.Test.YtcbkkjcleiibfaaMdl
import Derived.Test.YtcbkkjcleiibfaaRd7
namespace Go.Proofs.Ytcbkkjcleiibfaa
open Go.RowKit

def sumR (r : GRule) : GRule := if r.sum then r else ⟨false, [], true, (r.body.length : Int), r.body, List.replicate r.body.length 1⟩
def moreR (r : GRule) (f : Int) : GRule := ⟨false, [], true, r.bound * f + 7, r.body ++ [1, -1], r.w.map (fun x => min (x * f) 1048576) ++ [7, 7]⟩
def bigB (r : GRule) (f : Int) : Bool := r.w.any (fun x => decide (1048576 < x * f))
theorem sumT_ones (m : List Int) : ∀ xs : List Int, sumT xs (List.replicate xs.length 1) m ≤ xs.length ∧ (((xs.length : Int) ≤ sumT xs (List.replicate xs.length 1) m) ↔ xs.all (fun x => trueB x m) = true)
  | [] => by simp [sumT]
  | x :: xs => by
    obtain ⟨h1, h2⟩ := sumT_ones m xs
    rw [List.length_cons, List.replicate_succ, sumT_cons, List.all_cons, Bool.and_eq_true, ← h2]
    cases ht : trueB x m with
    | true => simp; omega
    | false => simp; omega
theorem sumT_append (m : List Int) : ∀ (xs ys us vs : List Int), ys.length = xs.length → sumT (xs ++ us) (ys ++ vs) m = sumT xs ys m + sumT us vs m
  | [], [], us, vs, _ => by simp [sumT]
  | x :: xs, y :: ys, us, vs, h => by
    rw [List.cons_append, List.cons_append, sumT_cons, sumT_cons, sumT_append m xs ys us vs (by simpa using h)]; omega
  | [], y :: ys, _, _, h => by simp at h
  | x :: xs, [], _, _, h => by simp at h
theorem sumT_both (m : List Int) : sumT [1, -1] [7, 7] m = 7 := by
  by_cases h : (1 : Int) ∈ m <;> simp [sumT, trueB, h]
theorem sumT_mul (m : List Int) (f : Int) : ∀ (xs ys : List Int), (∀ y ∈ ys, y * f ≤ 1048576) → sumT xs (ys.map fun x => min (x * f) 1048576) m = sumT xs ys m * f
  | [], _, _ => by simp [sumT]
  | _ :: _, [], _ => by simp [sumT]
  | x :: xs, y :: ys, h => by
    rw [List.map_cons, sumT_cons, sumT_cons, sumT_mul m f xs ys fun z hz => h z (by simp [hz]), Int.add_mul, show min (y * f) 1048576 = y * f from by have := h y (by simp); omega]
    split <;> simp
theorem bad_of {r : GRule} (h1 : r.body.length ≤ 8000) (h2 : ∀ x ∈ r.body, x ≠ 0 ∧ -9223372036854775808 < x) (h3 : r.sum = true → r.w.length = r.body.length) : badB r = false := by
  unfold badB
  have e1 : decide ((0 : Int) ∈ r.body) = false := decide_eq_false fun h => (h2 0 h).1 rfl
  have e2 : decide ((-9223372036854775808 : Int) ∈ r.body) = false := decide_eq_false fun h => by have := (h2 _ h).2; omega
  rw [e1, e2, decide_eq_false (show ¬ 8000 < r.body.length by omega)]
  cases hs : r.sum with
  | false => rfl
  | true => simp [h3 hs]
theorem wOut_ok {l : List Int} (h : ∀ y ∈ l, 0 ≤ y ∧ y ≤ 1048576) : l.any wOut = false := by
  rw [List.any_eq_false]
  intro y hy
  have := h y hy
  simp [wOut]; omega
/-- A body whose numbers are small. -/
structure SumIs (r : GRule) : Prop where
  len : r.body.length ≤ 36
  lit : ∀ x ∈ r.body, x ≠ 0 ∧ -4000 ≤ x ∧ x ≤ 4000
  wlen : r.sum = true → r.w.length = r.body.length
  w0 : r.sum = true → ∀ y ∈ r.w, 0 ≤ y ∧ y ≤ 1048576
  b0 : r.sum = true → 0 ≤ r.bound ∧ r.bound ≤ 1048576
theorem SumIs.bodyC {r : GRule} (h : SumIs r) (m : List Int) : bodyC r m = bodyB r m := by
  unfold Proofs.Ytcbkkjcleiibfaa.bodyC
  rw [bad_of (by have := h.len; omega) (fun x hx => by have := h.lit x hx; omega) h.wlen]
  cases hs : r.sum with
  | false => simp
  | true => simp [wOut_ok (h.w0 hs)]
theorem SumIs.sumR {r : GRule} (h : SumIs r) : SumIs (sumR r) ∧ (Proofs.Ytcbkkjcleiibfaa.sumR r).sum = true := by
  unfold Proofs.Ytcbkkjcleiibfaa.sumR
  cases hs : r.sum with
  | true => simp only [if_true]; exact ⟨h, hs⟩
  | false =>
    refine ⟨⟨h.len, h.lit, fun _ => by simp, fun _ y hy => ?_, fun _ => ?_⟩, rfl⟩
    · simp at hy; omega
    · have := h.len; simp; omega
theorem sumR_body {r : GRule} (h : SumIs r) (m : List Int) : Proofs.Ytcbkkjcleiibfaa.bodyC (sumR r) m = Proofs.Ytcbkkjcleiibfaa.bodyC r m := by
  rw [h.sumR.1.bodyC, h.bodyC]
  unfold sumR
  cases hs : r.sum with
  | true => simp
  | false =>
    simp only [Bool.false_eq_true, if_false]
    unfold bodyB
    rw [hs]
    simp only [if_true, Bool.false_eq_true, if_false]
    rw [Bool.eq_iff_iff, decide_eq_true_eq]
    exact (sumT_ones m r.body).2
theorem more_body {r : GRule} (h : SumIs r) (hs : r.sum = true) (f : Int) (h1 : 1 ≤ f) (hb : bigB r f = false) (m : List Int) : Proofs.Ytcbkkjcleiibfaa.bodyC (moreR r f) m = Proofs.Ytcbkkjcleiibfaa.bodyC r m := by
  have hle : ∀ y ∈ r.w, y * f ≤ 1048576 := fun y hy => by
    unfold bigB at hb
    have := List.any_eq_false.1 hb y hy
    simpa using this
  have hl := h.wlen hs
  have hbad : badB (moreR r f) = false := bad_of (by have := h.len; simp [moreR]; omega) (fun x hx => by
    simp only [moreR, List.mem_append, List.mem_cons, List.not_mem_nil, or_false] at hx
    rcases hx with hx | rfl | rfl
    · have := h.lit x hx; omega
    · omega
    · omega) (fun _ => by simp [moreR, hl])
  have hw : (moreR r f).w.any wOut = false := wOut_ok fun y hy => by
    simp only [moreR, List.mem_append, List.mem_map, List.mem_cons, List.not_mem_nil, or_false] at hy
    rcases hy with ⟨x, hx, rfl⟩ | rfl | rfl
    · have h0 : 0 ≤ x * f := Int.mul_nonneg (h.w0 hs x hx).1 (by omega)
      omega
    · omega
    · omega
  rw [h.bodyC]
  unfold Proofs.Ytcbkkjcleiibfaa.bodyC
  rw [hbad, hw]
  simp only [Bool.not_false, Bool.and_false, Bool.true_and]
  have e : ∀ q : GRule, q.sum = true → bodyB q m = decide (q.bound ≤ sumT q.body q.w m) := fun q hq => by unfold bodyB; rw [if_pos hq]
  rw [e _ (show (moreR r f).sum = true from rfl), e _ hs, Bool.eq_iff_iff, decide_eq_true_eq, decide_eq_true_eq]
  show r.bound * f + 7 ≤ sumT (r.body ++ [1, -1]) (r.w.map (fun x => min (x * f) 1048576) ++ [7, 7]) m ↔ _
  rw [sumT_append m _ _ _ _ (by simp [hl]), sumT_both, sumT_mul m f _ _ hle]
  constructor
  · intro hx
    exact Int.le_of_mul_le_mul_right (by omega) (show 0 < f by omega)
  · intro hx
    have := Int.mul_le_mul_of_nonneg_right hx (show 0 ≤ f by omega)
    omega
theorem mem_le_sum : ∀ {l : List Int}, (∀ x ∈ l, 1 ≤ x) → ∀ {y : Int}, y ∈ l → y ≤ l.sum
  | [], _, y, hy => by simp at hy
  | z :: r, h, y, hy => by
    have h0 : 0 ≤ r.sum := sum_nonneg fun x hx => by have := h x (by simp [hx]); omega
    have hz := h z (by simp)
    rcases List.mem_cons.1 hy with rfl | hy
    · simp; omega
    · have := mem_le_sum (fun x hx => h x (by simp [hx])) hy
      simp; omega
/-- The rules of a valid program of few parts have small bodies. -/
theorem sumIs_of {r : GRule} {n : Int} (h : RuleIs r n) (hl : r.head.length + r.body.length + r.w.length ≤ 36) : SumIs r := by
  have hsum : r.sum = true → (∀ x ∈ r.w, 1 ≤ x) ∧ 0 + r.w.sum ≤ 1048576 := fun hs => wtGo_spec r.w 0 (by omega) (by omega) (h.wt hs)
  refine ⟨by omega, fun x hx => ?_, h.wlen, fun hs y hy => ?_, fun hs => ⟨h.b0 hs, h.b1 hs⟩⟩
  · have h1 := ordGo_mem n r.body none h.body x hx
    have h2 := litB_bd h1
    have h3 := h.n1
    have h4 : x ≠ 0 := by simp [litB] at h1; exact h1.1
    omega
  · have h1 := (hsum hs).1
    have h2 := (hsum hs).2
    have h3 := mem_le_sum h1 hy
    have := h1 y hy
    omega
theorem few_rule {p : GProg} (h : fewB p = true) : ∀ r ∈ p.rules, r.head.length + r.body.length + r.w.length ≤ 36 := by
  unfold fewB at h
  simp only [Bool.and_eq_true, decide_eq_true_eq, List.all_eq_true] at h
  exact h.2.2.1
theorem sums_of {p : GProg} (hf : fewB p = true) (hv : validE p = 0) : ∀ r ∈ p.rules, SumIs r := fun r hr => sumIs_of ((validE_is hv).rules r hr) (few_rule hf r hr)
end Go.Proofs.Ytcbkkjcleiibfaa

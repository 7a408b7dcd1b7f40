/- Stable models (plain): of a valid program of few atoms the program computes what the definitions say. -/
import Derived.Test.YtdmcclfagjgcgaaGreatG5
import Derived.Test.YtdmcclfagjgcgaaGreatSw6
namespace Go.Proofs.YtdmcclfagjgcgaaGreat

theorem ord_len {n : Int} : ∀ (xs : List Int) (y : Int), litB y n = true → ordGo n (some y) xs = true → (xs.length : Int) + (2 * absI y + if y < 0 then 1 else 0) ≤ 2 * n + 1
  | [], y, hy, _ => by
    have h := litB_bd hy
    unfold absI
    simp only [List.length_nil]
    split <;> omega
  | x :: r, y, hy, h => by
    rw [ordGo_cons] at h
    simp only [Bool.and_eq_true] at h
    have ih := ord_len r x h.1.1 h.2
    have h2 := h.1.2
    have h3 := litB_bd h.1.1
    unfold litLt at h2
    simp only [Bool.or_eq_true, Bool.and_eq_true, decide_eq_true_eq] at h2
    rw [List.length_cons]
    unfold absI at *
    split at ih <;> split at h2 <;> (try split at h2) <;> omega
theorem ordB_len {n : Int} (h0 : 0 ≤ n) {xs : List Int} (h : ordB n xs = true) : (xs.length : Int) ≤ 2 * n := by
  cases xs with
  | nil => simp; omega
  | cons x r =>
    unfold ordB at h
    rw [ordGo_cons] at h
    simp only [Bool.and_eq_true, and_true] at h
    have h1 := ord_len r x h.1 h.2
    have h2 : x ≠ 0 := by have := h.1; simp [litB] at this; exact this.1
    rw [List.length_cons]
    unfold absI at h1
    split at h1 <;> omega
theorem inc_go_len : ∀ (xs : List Int) (lo n : Int), xs.Pairwise (· < ·) → (∀ x ∈ xs, lo < x ∧ x ≤ n) → lo ≤ n → (xs.length : Int) ≤ n - lo
  | [], lo, n, _, _, h => by simp; omega
  | x :: r, lo, n, hp, hx, h => by
    rw [List.pairwise_cons] at hp
    have h1 := hx x (by simp)
    have ih := inc_go_len r x n hp.2 (fun y hy => ⟨hp.1 y hy, (hx y (by simp [hy])).2⟩) h1.2
    rw [List.length_cons]; omega
theorem inc_lenN {n : Int} (h0 : 0 ≤ n) {xs : List Int} (h : incB n xs = true) : (xs.length : Int) ≤ n := by
  have := inc_go_len xs 0 n (inc_pair h) (fun x hx => by have := inc_mem h x hx; omega) h0
  omega
/-- The body of a valid rule is reckoned without a fault. -/
theorem bodyC_rule {r : GRule} {n : Int} (h : RuleIs r n) (m : List Int) : bodyC r m = bodyB r m := by
  have hl := ordB_len h.n0 h.body
  have hn := h.n1
  have hsum : r.sum = true → (∀ x ∈ r.w, 1 ≤ x) ∧ 0 + r.w.sum ≤ 1048576 := fun hs => wtGo_spec r.w 0 (by omega) (by omega) (h.wt hs)
  unfold bodyC
  rw [bad_of (by omega) (fun x hx => by
    have h1 := ordGo_mem n r.body none h.body x hx
    have h2 := litB_bd h1
    have h4 : x ≠ 0 := by simp [litB] at h1; exact h1.1
    omega) h.wlen]
  cases hs : r.sum with
  | false => simp
  | true =>
    obtain ⟨h1, h2⟩ := hsum hs
    simp [wOut_ok (l := r.w) fun y hy => by
      have := mem_le_sum h1 hy
      have := h1 y hy
      omega]
theorem satC_rule {r : GRule} {n : Int} (h : RuleIs r n) (m : List Int) : satC r m = satB r m := by
  unfold satC satB
  rw [bodyC_rule h, Bool.or_assoc]
theorem satCL_rules {rs : List GRule} {n : Int} (h : ∀ r ∈ rs, RuleIs r n) (m : List Int) : satCL rs m = satL rs m := by
  unfold satCL satL
  rw [Bool.eq_iff_iff, List.all_eq_true, List.all_eq_true]
  exact ⟨fun hh r hr => by rw [← satC_rule (h r hr)]; exact hh r hr, fun hh r hr => by rw [satC_rule (h r hr)]; exact hh r hr⟩
theorem minC_rules {rs : List GRule} {n : Int} (h : ∀ r ∈ rs, RuleIs r n) (m : List Int) : minC rs m = minL rs m := by
  unfold minC minL
  rw [show satCL rs = satL rs from funext fun s => satCL_rules h s]
  cases (subsL m).find? (satL rs) <;> rfl
/-- A valid program of at most 12 atoms and 1000 rules. -/
structure SmallP (p : GProg) : Prop where
  is : ProgIs p
  n0 : 0 ≤ p.n
  n12 : p.n ≤ 12
  few : p.rules.length ≤ 1000
theorem isC_is {p : GProg} (h : ProgIs p) (m : List Int) : isC p m (disB p) = isL p m := by
  unfold isC isL
  rw [minC_rules (n := p.n) fun r hr => ruleE_is (reductL_is m p.rules h.rules r hr).1]
theorem SmallP.red {p : GProg} (h : SmallP p) (m : List Int) (hd : disB p = false) : defB p.n (reductL p.rules m) = true := by
  have hn := h.n12
  have h0 := h.n0
  have hf := h.few
  obtain ⟨N, hN⟩ : ∃ N : Nat, p.n = (N : Int) := ⟨p.n.toNat, by omega⟩
  have hl := reductL_len2 m 12 p.rules fun r hr => by
    have := inc_lenN h0 (h.is.rules r hr).head
    omega
  refine defB_of h0 (by omega) ?_ fun r hr => ?_
  · have : (12 + 1) * p.rules.length ≤ 13 * 1000 := Nat.mul_le_mul (by omega) hf
    omega
  · have hD := red_def h.is hd m N hN r hr
    rw [← hN] at hD
    unfold defR
    have h1 := hD.pos
    rw [decide_eq_true (reductL_is m p.rules h.is.rules r hr).1, hD.plain, decide_eq_true hD.one, List.all_eq_true.2 fun x hx => by have := h1 x hx; simp; omega]
    rfl
/-- Every subset of the atoms is a set of atoms. -/
theorem SmallP.check {p : GProg} (h : SmallP p) (hv : validE p = 0) {s : List Int} (hs : s.Sublist (atomsL p.n.toNat)) : checkE p s = 0 :=
  check_of hv (by have := (atoms_sub p.n.toNat s).1 hs; rwa [show ((p.n.toNat : Nat) : Int) = p.n from by have := h.n0; omega] at this)
end Go.Proofs.YtdmcclfagjgcgaaGreat

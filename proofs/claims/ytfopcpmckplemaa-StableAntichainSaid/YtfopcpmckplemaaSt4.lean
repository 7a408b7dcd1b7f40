/- Stable models (plain): the law StableAntichain; what Best picks. -/
import Derived.Test.YtfopcpmckplemaaG5
namespace Go.Proofs.Ytfopcpmckplemaa

theorem negS_anti {m m' : List Int} (hs : ∀ x ∈ m, x ∈ m') : ∀ (xs ys : List Int), (∀ y ∈ ys, 0 ≤ y) → negS m' (xs.zip ys) ≤ negS m (xs.zip ys)
  | [], ys, _ => by simp [negS]
  | x :: xs, [], _ => by simp [negS]
  | x :: xs, y :: ys, h => by
    have h1 := h y (by simp)
    have h2 := negS_anti hs xs ys fun q hq => h q (by simp [hq])
    rw [List.zip_cons_cons, negS, negS]
    by_cases hc : x ≤ 0 ∧ -x ∉ m'
    · rw [if_pos hc, if_pos ⟨hc.1, fun hm => hc.2 (hs _ hm)⟩]; omega
    · rw [if_neg hc]; split <;> omega
/-- A body that is true in a smaller set once it is reduced by a larger one is true there. -/
theorem pos_body_sub {r : GRule} {n : Int} (hi : RuleIs r n) {m m' : List Int} (hs : ∀ x ∈ m, x ∈ m') (hd : dropB r m' = false) (hb : bodyB (posRule r m') m = true) : bodyB r m = true := by
  by_cases hsum : r.sum = true
  · have hw := wtGo_spec r.w 0 (by omega) (by omega) (hi.wt hsum)
    have hw0 : ∀ y ∈ r.w, 0 ≤ y := fun y hy => by have := hw.1 y hy; omega
    have hsp := sumT_split m r.body r.w (hi.wlen hsum)
    change sumT r.body r.w m = negS m (zp r) + sumT (r.body.filter isPos) (posW (zp r)) m at hsp
    have hnn := sumT_nonneg m (r.body.filter isPos) (posW (zp r)) fun y hy => by
      obtain ⟨x, hx⟩ := posW_mem hy
      exact hw0 y (List.of_mem_zip hx).2
    have han : negS m' (zp r) ≤ negS m (zp r) := negS_anti hs r.body r.w hw0
    unfold bodyB
    rw [if_pos hsum, decide_eq_true_eq, hsp]
    unfold posRule at hb
    rw [if_pos hsum] at hb
    by_cases hz : r.bound - negS m' (zp r) ≤ 0
    · omega
    · rw [if_neg hz] at hb
      have h1 : r.bound - negS m' (zp r) ≤ sumT (r.body.filter isPos) (posW (zp r)) m := by
        unfold bodyB at hb
        simpa using hb
      omega
  · have hf : r.sum = false := by simpa using hsum
    unfold dropB at hd
    rw [hf] at hd
    simp only [Bool.not_false, Bool.true_and, List.any_eq_false] at hd
    unfold posRule bodyB at hb
    unfold bodyB
    simp only [hf, Bool.false_eq_true, if_false] at hb ⊢
    rw [List.all_eq_true] at hb ⊢
    intro x hx
    by_cases hp : isPos x = true
    · exact hb x (List.mem_filter.2 ⟨hx, hp⟩)
    · have h1 := hd x hx
      have h0 : ¬ 0 < x := by simpa [isPos] using hp
      unfold badL at h1
      simp [hp] at h1
      unfold trueB
      rw [if_neg h0]
      have : -x ∉ m := fun hm => h1 (hs _ hm)
      simp [this]
/-- Without choices no stable model is in another one. -/
theorem antichain {p : GProg} (hp : ProgIs p) (h0 : 0 ≤ p.n) (hc : ∀ r ∈ p.rules, r.choice = false) {m m' : List Int} (hm : incB p.n m = true) (hm' : incB p.n m' = true) (h1 : isL p m = true) (h2 : isL p m' = true) (hs : ∀ x ∈ m, x ∈ m') : m = m' := by
  rw [is_def hp hm h0, Bool.and_eq_true] at h1
  rw [is_def hp hm' h0, Bool.and_eq_true] at h2
  refine ((minL_iff _ _).1 h2.2).2 m (sub_of (inc_pair hm) (inc_pair hm') hs) ?_
  unfold satL
  rw [List.all_eq_true]
  intro c hcm
  unfold reductL at hcm
  obtain ⟨r, hr, hx⟩ := List.mem_flatMap.1 hcm
  unfold redOne at hx
  split at hx
  · cases hx
  · rename_i hd
    have hd : dropB r m' = false := by simpa using hd
    rw [hc r hr] at hx
    simp only [Bool.false_eq_true, if_false, List.mem_cons, List.not_mem_nil, or_false] at hx
    subst hx
    have hsb : satB { posRule r m' with head := r.head } m = (!bodyB (posRule r m') m || r.head.any fun a => decide (a ∈ m)) := by
      unfold satB
      rw [show ({ posRule r m' with head := r.head } : GRule).choice = false from posRule_choice r m', Bool.false_or]
      rfl
    rw [hsb]
    cases hb : bodyB (posRule r m') m with
    | false => rfl
    | true =>
      have h3 := pos_body_sub (hp.rules r hr) hs hd hb
      have h4 : satB r m = true := by
        have := h1.1
        unfold modelB at this
        exact List.all_eq_true.1 this r hr
      unfold satB at h4
      rw [hc r hr, h3] at h4
      simpa using h4
/-- A positive body is its own reduct. -/
theorem pos_self {r : GRule} {n : Int} (hi : DefIs r n) (m b : List Int) : bodyB (posRule r m) b = bodyB r b := by
  have hbody : r.body.filter isPos = r.body := List.filter_eq_self.2 fun x hx => decide_eq_true (hi.pos x hx)
  by_cases hsum : r.sum = true
  · have hw := wtGo_spec r.w 0 (by omega) (by omega) (hi.is.wt hsum)
    have hn : ∀ (xs ys : List Int), (∀ x ∈ xs, 0 < x) → negS m (xs.zip ys) = 0 ∧ (ys.length = xs.length → posW (xs.zip ys) = ys) := by
      intro xs
      induction xs with
      | nil => intro ys _; exact ⟨by simp [negS], fun h => by simp [posW]; exact (List.eq_nil_of_length_eq_zero (by simpa using h))⟩
      | cons x t ih =>
        intro ys h
        have hx := h x (by simp)
        cases ys with
        | nil => exact ⟨by simp [negS], fun h => by simp at h⟩
        | cons y u =>
          obtain ⟨h1, h2⟩ := ih u fun z hz => h z (by simp [hz])
          refine ⟨by rw [List.zip_cons_cons, negS, if_neg (by omega), h1]; rfl, fun hl => ?_⟩
          have hp : isPos x = true := decide_eq_true hx
          have : posW ((x, y) :: t.zip u) = y :: posW (t.zip u) := by simp [posW, hp]
          rw [List.zip_cons_cons, this, h2 (by simpa using hl)]
    obtain ⟨h1, h2⟩ := hn r.body r.w hi.pos
    change negS m (zp r) = 0 at h1
    have h3 : posW (zp r) = r.w := h2 (hi.is.wlen hsum)
    unfold posRule
    rw [if_pos hsum, h1, h3, hbody, Int.sub_zero]
    have hb : bodyB r b = decide (r.bound ≤ sumT r.body r.w b) := by unfold bodyB; rw [if_pos hsum]
    rw [hb]
    by_cases hz : r.bound ≤ 0
    · rw [if_pos hz, decide_eq_true (by have := sumT_nonneg b r.body r.w fun y hy => by { have := hw.1 y hy; omega }; omega)]; rfl
    · rw [if_neg hz]; rfl
  · have hf : r.sum = false := by simpa using hsum
    unfold posRule bodyB
    simp only [hf, Bool.false_eq_true, if_false, hbody]
theorem pos_drop {r : GRule} {n : Int} (hi : DefIs r n) (m : List Int) : dropB r m = false := by
  unfold dropB
  rw [Bool.and_eq_false_iff]; right
  rw [List.any_eq_false]
  intro x hx
  have : isPos x = true := decide_eq_true (hi.pos x hx)
  unfold badL; rw [this]; simp
theorem pos_deriv {n : Int} : ∀ (rs : List GRule), (∀ r ∈ rs, DefIs r n) → ∀ m b a, derivB (reductL rs m) b a = derivB rs b a
  | [], _, _, _, _ => rfl
  | r :: t, h, m, b, a => by
    have hi := h r (by simp)
    have ih := pos_deriv t (fun x hx => h x (by simp [hx])) m b a
    have e : reductL (r :: t) m = { posRule r m with head := r.head } :: reductL t m := by
      have : redOne m r = [{ posRule r m with head := r.head }] := by unfold redOne; rw [pos_drop hi, hi.plain]; rfl
      simp [reductL, this]
    rw [e]
    unfold derivB at ih ⊢
    rw [List.any_cons, List.any_cons, ih]
    congr 1
    unfold derB
    congr 1
    exact pos_self hi m b
/-- Definite rules have one stable model at most: the least model. -/
theorem positive_is {p : GProg} (hd : ∀ r ∈ p.rules, DefIs r p.n) (m : List Int) : isL p m = (modelB p m && decide (leastL p.rules p.n.toNat = m)) := by
  have h1 : disB p = false := by
    unfold disB
    rw [List.any_eq_false]
    intro r hr
    have := (hd r hr).one
    simp; intro _; exact this
  unfold isL
  rw [h1, least_congr (rs' := p.rules) p.n.toNat (pos_deriv p.rules hd m)]
  simp
theorem positive_all {p : GProg} (hd : ∀ r ∈ p.rules, DefIs r p.n) (h0 : 0 ≤ p.n) : allL p = if modelB p (leastL p.rules p.n.toNat) then [leastL p.rules p.n.toNat] else [] := by
  have hl : incB p.n (leastL p.rules p.n.toNat) = true := by
    have := least_inc p.rules p.n.toNat
    rwa [show ((p.n.toNat : Nat) : Int) = p.n by omega] at this
  refine lex_ext (all_sorted p) (by split <;> simp) fun x => ?_
  rw [all_mem p h0, positive_is hd, Bool.and_eq_true, decide_eq_true_eq]
  split
  · rename_i h
    rw [List.mem_singleton]
    constructor
    · rintro ⟨_, _, e⟩; exact e.symm
    · rintro rfl; exact ⟨hl, h, rfl⟩
  · rename_i h
    constructor
    · rintro ⟨_, h2, e⟩; rw [← e] at h2; exact absurd h2 h
    · intro hx; cases hx
end Go.Proofs.Ytfopcpmckplemaa

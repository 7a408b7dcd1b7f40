/- The reduct (plain): it is valid, has no choices and no negative literals, and has the same models. -/
import Derived.Test.YtcbkkjcleiibfaaRd9
import Derived.Test.YtcbkkjcleiibfaaFew
namespace Go.Proofs.Ytcbkkjcleiibfaa

theorem litLt_trans {a b c : Int} (h1 : litLt a b = true) (h2 : litLt b c = true) : litLt a c = true := by
  unfold litLt at *
  simp only [Bool.or_eq_true, Bool.and_eq_true, decide_eq_true_eq] at *
  omega
theorem ordGo_iff (n : Int) : ∀ (xs : List Int) (p : Option Int), ordGo n p xs = true ↔ (∀ x ∈ xs, litB x n = true) ∧ xs.Pairwise (fun a b => litLt a b = true) ∧ (∀ y, p = some y → ∀ x ∈ xs, litLt y x = true)
  | [], p => by simp [ordGo]
  | x :: r, p => by
    rw [ordGo_cons, Bool.and_eq_true, Bool.and_eq_true, ordGo_iff n r (some x), List.pairwise_cons]
    constructor
    · rintro ⟨⟨h1, h2⟩, h3, h4, h5⟩
      refine ⟨fun y hy => ?_, ⟨h5 x rfl, h4⟩, fun y hy z hz => ?_⟩
      · rcases List.mem_cons.1 hy with rfl | hy
        · exact h1
        · exact h3 y hy
      · subst hy
        rcases List.mem_cons.1 hz with rfl | hz
        · exact h2
        · exact litLt_trans h2 (h5 x rfl z hz)
    · rintro ⟨h1, ⟨h2, h3⟩, h4⟩
      refine ⟨⟨h1 x (by simp), ?_⟩, fun y hy => h1 y (by simp [hy]), h3, fun y hy => by cases hy; exact h2⟩
      cases p with
      | none => rfl
      | some y => exact h4 y rfl x (by simp)
theorem ordB_filter {n : Int} {xs : List Int} (h : ordB n xs = true) (f : Int → Bool) : ordB n (xs.filter f) = true := by
  obtain ⟨h1, h2, _⟩ := (ordGo_iff n xs none).1 h
  exact (ordGo_iff n _ none).2 ⟨fun x hx => h1 x (List.mem_filter.1 hx).1, h2.sublist List.filter_sublist, fun _ e => by cases e⟩
theorem incB_one {n a : Int} (h1 : 1 ≤ a) (h2 : a ≤ n) : incB n [a] = true := by
  simp [incB, ordB, ordGo, litB]; omega
theorem wtGo_of : ∀ (xs : List Int) (s : Int), (∀ x ∈ xs, 1 ≤ x) → s + xs.sum ≤ 1048576 → wtGo s xs = true
  | [], _, _, _ => rfl
  | x :: r, s, h1, h2 => by
    have hx := h1 x (by simp)
    have hr := sum_nonneg (l := r) fun z hz => by have := h1 z (by simp [hz]); omega
    rw [List.sum_cons] at h2
    simp only [wtGo, Bool.and_eq_true, decide_eq_true_eq]
    refine ⟨⟨hx, by omega⟩, wtGo_of r (s + x) (fun z hz => h1 z (by simp [hz])) (by omega)⟩
theorem posW_sum : ∀ (xs ys : List Int), (∀ y ∈ ys, 0 ≤ y) → (posW (xs.zip ys)).sum ≤ ys.sum
  | [], ys, h => by simp [posW]; exact sum_nonneg h
  | x :: xs, [], _ => by simp [posW]
  | x :: xs, y :: ys, h => by
    have h1 := h y (by simp)
    have h2 := posW_sum xs ys fun q hq => h q (by simp [hq])
    by_cases hx : isPos x = true
    · have e : posW ((x :: xs).zip (y :: ys)) = y :: posW (xs.zip ys) := by simp [posW, hx]
      rw [e, List.sum_cons, List.sum_cons]; omega
    · have e : posW ((x :: xs).zip (y :: ys)) = posW (xs.zip ys) := by simp [posW, hx]
      rw [e, List.sum_cons]; omega
theorem pos_zip : ∀ (xs ys : List Int), ys.length = xs.length → ((xs.zip ys).filter fun p => isPos p.1).map Prod.fst = xs.filter isPos
  | [], ys, _ => by simp
  | x :: xs, [], h => by simp at h
  | x :: xs, y :: ys, h => by
    have ih := pos_zip xs ys (by simpa using h)
    by_cases hx : isPos x = true
    · simp [hx, ih]
    · simp [hx, ih]
theorem posW_length {xs ys : List Int} (h : ys.length = xs.length) : (posW (xs.zip ys)).length = (xs.filter isPos).length := by
  rw [← pos_zip xs ys h, List.length_map]; unfold posW; rw [List.length_map]
theorem sumT_nonneg (m : List Int) : ∀ (xs ys : List Int), (∀ y ∈ ys, 0 ≤ y) → 0 ≤ sumT xs ys m
  | [], ys, _ => by simp [sumT]
  | x :: xs, [], _ => by simp [sumT]
  | x :: xs, y :: ys, h => by
    have h1 := h y (by simp)
    have h2 := sumT_nonneg m xs ys fun q hq => h q (by simp [hq])
    rw [sumT_cons]; split <;> omega
theorem sumT_split (m : List Int) : ∀ (xs ys : List Int), ys.length = xs.length → sumT xs ys m = negS m (xs.zip ys) + sumT (xs.filter isPos) (posW (xs.zip ys)) m
  | [], ys, h => by
    have : ys = [] := List.eq_nil_of_length_eq_zero (by simpa using h)
    subst this; simp [sumT, negS, posW]
  | x :: xs, [], h => by simp at h
  | x :: xs, y :: ys, h => by
    have ih := sumT_split m xs ys (by simpa using h)
    rw [sumT_cons, ih, List.zip_cons_cons, negS]
    by_cases hx : isPos x = true
    · have h0 : 0 < x := by simpa [isPos] using hx
      have e1 : posW ((x, y) :: xs.zip ys) = y :: posW (xs.zip ys) := by simp [posW, hx]
      rw [List.filter_cons_of_pos hx, e1, sumT_cons, if_neg (by omega : ¬ (x ≤ 0 ∧ -x ∉ m))]; omega
    · have h0 : ¬ 0 < x := by simpa [isPos] using hx
      have e1 : posW ((x, y) :: xs.zip ys) = posW (xs.zip ys) := by simp [posW, hx]
      rw [List.filter_cons_of_neg hx, e1]
      unfold trueB
      rw [if_neg h0]
      by_cases hm : -x ∈ m
      · rw [if_neg (by simp [hm]), if_neg (fun h => h.2 hm)]; omega
      · rw [if_pos (by simp [hm]), if_pos ⟨by omega, hm⟩]; omega
theorem all_filter {p q : Int → Bool} : ∀ (l : List Int), (∀ x ∈ l, q x = false → p x = true) → l.all p = (l.filter q).all p
  | [], _ => rfl
  | x :: r, h => by
    have ih := all_filter r fun z hz => h z (by simp [hz])
    by_cases hx : q x = true
    · rw [List.filter_cons_of_pos hx, List.all_cons, List.all_cons, ih]
    · rw [List.filter_cons_of_neg hx, List.all_cons, ih, h x (by simp) (by simpa using hx), Bool.true_and]
theorem body_red {r : GRule} {n : Int} (hi : RuleIs r n) {m : List Int} (hd : dropB r m = false) : bodyB (posRule r m) m = bodyB r m := by
  by_cases hs : r.sum = true
  · have hw := wtGo_spec r.w 0 (by omega) (by omega) (hi.wt hs)
    have hsp := sumT_split m r.body r.w (hi.wlen hs)
    have hnn := sumT_nonneg m (r.body.filter isPos) (posW (zp r)) fun y hy => by
      obtain ⟨x, hx⟩ := posW_mem hy
      have := hw.1 y (List.of_mem_zip hx).2; omega
    change sumT r.body r.w m = negS m (zp r) + sumT (r.body.filter isPos) (posW (zp r)) m at hsp
    unfold posRule
    rw [if_pos hs]
    have hb : bodyB r m = decide (r.bound ≤ sumT r.body r.w m) := by unfold bodyB; rw [if_pos hs]
    rw [hb, hsp]
    by_cases hz : r.bound - negS m (zp r) ≤ 0
    · rw [if_pos hz, decide_eq_true (by omega)]; rfl
    · rw [if_neg hz]
      show decide (r.bound - negS m (zp r) ≤ sumT (r.body.filter isPos) (posW (zp r)) m) = _
      rw [Bool.eq_iff_iff, decide_eq_true_eq, decide_eq_true_eq]; omega
  · have hf : r.sum = false := by simpa using hs
    unfold dropB at hd
    rw [hf] at hd
    simp only [Bool.not_false, Bool.true_and, List.any_eq_false] at hd
    unfold posRule bodyB
    simp only [hf, Bool.false_eq_true, if_false]
    refine (all_filter r.body fun x hx hq => ?_).symm
    have := hd x hx
    unfold badL at this
    rw [hq] at this
    simp at this
    have h0 : ¬ 0 < x := by simpa [isPos] using hq
    unfold trueB; rw [if_neg h0]; simp [this]
theorem drop_body {r : GRule} {m : List Int} (hd : dropB r m = true) : bodyB r m = false := by
  unfold dropB at hd
  simp only [Bool.and_eq_true, Bool.not_eq_true', List.any_eq_true] at hd
  obtain ⟨hf, x, hx, hb⟩ := hd
  unfold bodyB
  rw [hf]
  simp only [Bool.false_eq_true, if_false]
  rw [List.all_eq_false]
  refine ⟨x, hx, ?_⟩
  unfold badL at hb
  simp only [Bool.and_eq_true, Bool.not_eq_true', decide_eq_true_eq] at hb
  have h0 : ¬ 0 < x := by have := hb.1; simpa [isPos] using this
  unfold trueB; rw [if_neg h0]; simp [hb.2]
theorem posRule_body {r : GRule} {m : List Int} : ∀ x ∈ (posRule r m).body, 0 < x := by
  intro x hx
  unfold posRule at hx
  have key : x ∈ r.body.filter isPos → 0 < x := fun h => by simpa [isPos] using (List.mem_filter.1 h).2
  split at hx
  · split at hx
    · simp [zeroRule] at hx
    · exact key hx
  · exact key hx
theorem posRule_choice (r : GRule) (m : List Int) : (posRule r m).choice = false := by
  unfold posRule
  split
  · split <;> rfl
  · rfl
theorem posRule_is {r : GRule} {n : Int} (hi : RuleIs r n) (m : List Int) {hs : List Int} (hh : incB n hs = true) : ruleE { posRule r m with head := hs } n = 0 := by
  have h0 := hi.n0
  have h1 := hi.n1
  have hb := ordB_filter hi.body isPos
  unfold ruleE
  rw [if_neg (by omega), if_neg (by rw [hh]; simp [posRule_choice])]
  by_cases hsum : r.sum = true
  · have hw := wtGo_spec r.w 0 (by omega) (by omega) (hi.wt hsum)
    have hwl := hi.wlen hsum
    have hbb := negS_bd m r.body r.w (zp r).length fun y hy => by have := hw.1 y hy; omega
    rw [show (r.body.zip r.w).take (zp r).length = zp r from List.take_length] at hbb
    have hb0 := hi.b0 hsum
    have hb1 := hi.b1 hsum
    unfold posRule
    rw [if_pos hsum]
    by_cases hz : r.bound - negS m (zp r) ≤ 0
    · rw [if_pos hz]; simp [zeroRule, ordB, ordGo]
    · rw [if_neg hz]
      have hwt : wtB (posW (zp r)) (r.body.filter isPos).length = true := by
        unfold wtB
        rw [show (posW (zp r)).length = (r.body.filter isPos).length from posW_length hwl]
        have h2 := posW_sum r.body r.w fun y hy => by have := hw.1 y hy; omega
        have h3 : wtGo 0 (posW (zp r)) = true := wtGo_of _ 0 (fun y hy => by
          obtain ⟨x, hx⟩ := posW_mem hy
          exact hw.1 y (List.of_mem_zip hx).2) (by change (posW (zp r)).sum ≤ _ at h2; omega)
        simp [h3]
      simp only
      rw [if_neg (by rw [hb]; simp), if_neg]
      rw [hwt]; simp; omega
  · have hf : r.sum = false := by simpa using hsum
    have hp := hi.plain hf
    unfold posRule
    simp only [hf, Bool.false_eq_true, if_false]
    rw [if_neg (by rw [hb]; simp), if_neg (by simp [hp.2])]
theorem redOne_is {r : GRule} {n : Int} (hi : RuleIs r n) (m : List Int) : ∀ x ∈ redOne m r, ruleE x n = 0 ∧ x.choice = false ∧ ∀ b ∈ x.body, 0 < b := by
  intro x hx
  unfold redOne at hx
  split at hx
  · simp at hx
  · split at hx
    · obtain ⟨a, ha, rfl⟩ := List.mem_map.1 hx
      have := inc_mem hi.head a (List.mem_filter.1 ha).1
      exact ⟨posRule_is hi m (incB_one this.1 this.2), posRule_choice _ _, posRule_body⟩
    · simp at hx; subst hx
      exact ⟨posRule_is hi m hi.head, posRule_choice _ _, posRule_body⟩
theorem satB_head {r : GRule} {m hs : List Int} : satB { posRule r m with head := hs } m = (!bodyB (posRule r m) m || hs.any fun a => decide (a ∈ m)) := by
  unfold satB
  rw [show ({ posRule r m with head := hs } : GRule).choice = false from posRule_choice r m, Bool.false_or]
  rfl
theorem sat_red {r : GRule} {n : Int} (hi : RuleIs r n) (m : List Int) : (redOne m r).all (fun x => satB x m) = satB r m := by
  unfold redOne
  split
  · rename_i hd
    unfold satB; rw [drop_body hd]; simp
  · rename_i hd
    have hd : dropB r m = false := by simpa using hd
    split
    · rename_i hc
      have : satB r m = true := by unfold satB; rw [hc]; rfl
      rw [this, List.all_eq_true]
      intro x hx
      obtain ⟨a, ha, rfl⟩ := List.mem_map.1 hx
      rw [satB_head]
      have := (List.mem_filter.1 ha).2
      simp only [decide_eq_true_eq] at this
      simp [this]
    · rename_i hc
      rw [List.all_cons, List.all_nil, Bool.and_true, satB_head, body_red hi hd]
      unfold satB
      rw [show r.choice = false from by simpa using hc, Bool.false_or]
theorem model_red {n : Int} (m : List Int) : ∀ (rs : List GRule), (∀ r ∈ rs, RuleIs r n) → (reductL rs m).all (fun x => satB x m) = rs.all (fun x => satB x m)
  | [], _ => rfl
  | r :: t, h => by
    have ih := model_red m t fun x hx => h x (by simp [hx])
    have e : reductL (r :: t) m = redOne m r ++ reductL t m := by simp [reductL]
    rw [e, List.all_append, List.all_cons, ih, sat_red (h r (by simp)) m]
theorem reductL_is {n : Int} (m : List Int) : ∀ (rs : List GRule), (∀ r ∈ rs, RuleIs r n) → ∀ x ∈ reductL rs m, ruleE x n = 0 ∧ x.choice = false ∧ ∀ b ∈ x.body, 0 < b := fun rs h x hx => by
  unfold reductL at hx
  obtain ⟨r, hr, hx⟩ := List.mem_flatMap.1 hx
  exact redOne_is (h r hr) m x hx
theorem reductL_same (m : List Int) : ∀ (rs : List GRule), (∀ r ∈ rs, r.choice = false ∧ ∀ b ∈ r.body, 0 < b) → (reductL rs m).length = rs.length
  | [], _ => rfl
  | r :: t, h => by
    have ih := reductL_same m t fun x hx => h x (by simp [hx])
    have hr := h r (by simp)
    have hd : dropB r m = false := by
      unfold dropB
      rw [Bool.and_eq_false_iff]; right
      rw [List.any_eq_false]
      intro x hx
      have : isPos x = true := decide_eq_true (hr.2 x hx)
      unfold badL; rw [this]; simp
    have e : reductL (r :: t) m = redOne m r ++ reductL t m := by simp [reductL]
    have e2 : redOne m r = [{ posRule r m with head := r.head }] := by unfold redOne; rw [hd, hr.1]; rfl
    rw [e, e2, List.length_append, List.length_cons, List.length_cons, List.length_nil, ih]; omega
/-- A program of plain rules. -/
def withP (n : Int) (rs : List GRule) : GProg := ⟨n, List.replicate n.toNat ByteArray.empty, [], rs, []⟩
theorem namesGo_empty : ∀ k, namesGo [] (List.replicate k ByteArray.empty) = true
  | 0 => rfl
  | k + 1 => by
    rw [List.replicate_succ, namesGo_cons]
    have h1 : nlB ByteArray.empty = false := by decide
    have h2 : hasS ByteArray.empty [] = false := rfl
    rw [h1, h2, if_pos (show ByteArray.empty.size = 0 from rfl), namesGo_empty k]
    decide
theorem withP_valid {n : Int} {rs : List GRule} (h0 : 0 ≤ n) (h1 : n ≤ 4000) (hl : rs.length ≤ 40000) (hr : ∀ r ∈ rs, ruleE r n = 0) : validE (withP n rs) = 0 := by
  have hn : namedB (withP n rs) = true := by
    unfold namedB withP
    simp only [namesGo_empty]
    have : incB n [] = true := rfl
    simp [this, h0, h1]; omega
  have hrs : ∀ (l : List GRule), (∀ r ∈ l, ruleE r n = 0) → rulesE n l = 0 := by
    intro l
    induction l with
    | nil => intro _; rfl
    | cons r t ih => intro h; unfold rulesE; rw [h r (by simp)]; simp [ih fun x hx => h x (by simp [hx])]
  unfold validE
  rw [hn, if_neg (by decide), if_neg (show ¬ 40000 < (withP n rs).rules.length by simp only [withP]; omega), if_neg (show ¬ rulesE (withP n rs).n (withP n rs).rules ≠ 0 from fun h => h (hrs rs hr))]
  rfl
end Go.Proofs.Ytcbkkjcleiibfaa

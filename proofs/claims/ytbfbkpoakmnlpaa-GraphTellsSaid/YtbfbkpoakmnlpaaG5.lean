/- Several texts in one: Mdl, Sbs, Mon, Sms, St0, St1, Cls, St2, St3, St5. -/
import Derived.Test.YtbfbkpoakmnlpaaGZ
import Derived.Test.YtbfbkpoakmnlpaaG4
import Derived.Test.YtbfbkpoakmnlpaaG2
import Derived.Laws.BitsAllLaws
import Derived.Test.YtbfbkpoakmnlpaaRd7
/- The reduct (plain): it is valid, has no choices and no negative literals, and has the same models. -/
namespace Go.Proofs.Ytbfbkpoakmnlpaa

theorem litLt_trans {a b c : Int} (h1 : litLt a b = true) (h2 : litLt b c = true) : litLt a c = true := by
  unfold litLt at *
  simp only [Bool.or_eq_true, Bool.and_eq_true, decide_eq_true_eq] at *
  omega
theorem ordGo_iff (n : Int) : ∀ (xs : List Int) (p : Option Int), ordGo n p xs = true ↔ (∀ x ∈ xs, litB x n = true) ∧ xs.Pairwise (fun a b => litLt a b = true) ∧ (∀ y, p = some y → ∀ x ∈ xs, litLt y x = true)
  | [], p => by simp [ordGo]
  | x :: r, p => by
    rw [ordGo_cons, Bool.and_eq_true, Bool.and_eq_true, ordGo_iff n r (some x), List.pairwise_cons]
    constructor
    · rintro ⟨⟨h1, h2⟩, h3, h4, h5⟩
      refine ⟨fun y hy => ?_, ⟨h5 x rfl, h4⟩, fun y hy z hz => ?_⟩
      · rcases List.mem_cons.1 hy with rfl | hy
        · exact h1
        · exact h3 y hy
      · subst hy
        rcases List.mem_cons.1 hz with rfl | hz
        · exact h2
        · exact litLt_trans h2 (h5 x rfl z hz)
    · rintro ⟨h1, ⟨h2, h3⟩, h4⟩
      refine ⟨⟨h1 x (by simp), ?_⟩, fun y hy => h1 y (by simp [hy]), h3, fun y hy => by cases hy; exact h2⟩
      cases p with
      | none => rfl
      | some y => exact h4 y rfl x (by simp)
theorem ordB_filter {n : Int} {xs : List Int} (h : ordB n xs = true) (f : Int → Bool) : ordB n (xs.filter f) = true := by
  obtain ⟨h1, h2, _⟩ := (ordGo_iff n xs none).1 h
  exact (ordGo_iff n _ none).2 ⟨fun x hx => h1 x (List.mem_filter.1 hx).1, h2.sublist List.filter_sublist, fun _ e => by cases e⟩
theorem incB_one {n a : Int} (h1 : 1 ≤ a) (h2 : a ≤ n) : incB n [a] = true := by
  simp [incB, ordB, ordGo, litB]; omega
theorem wtGo_of : ∀ (xs : List Int) (s : Int), (∀ x ∈ xs, 1 ≤ x) → s + xs.sum ≤ 1048576 → wtGo s xs = true
  | [], _, _, _ => rfl
  | x :: r, s, h1, h2 => by
    have hx := h1 x (by simp)
    have hr := sum_nonneg (l := r) fun z hz => by have := h1 z (by simp [hz]); omega
    rw [List.sum_cons] at h2
    simp only [wtGo, Bool.and_eq_true, decide_eq_true_eq]
    refine ⟨⟨hx, by omega⟩, wtGo_of r (s + x) (fun z hz => h1 z (by simp [hz])) (by omega)⟩
theorem posW_sum : ∀ (xs ys : List Int), (∀ y ∈ ys, 0 ≤ y) → (posW (xs.zip ys)).sum ≤ ys.sum
  | [], ys, h => by simp [posW]; exact sum_nonneg h
  | x :: xs, [], _ => by simp [posW]
  | x :: xs, y :: ys, h => by
    have h1 := h y (by simp)
    have h2 := posW_sum xs ys fun q hq => h q (by simp [hq])
    by_cases hx : isPos x = true
    · have e : posW ((x :: xs).zip (y :: ys)) = y :: posW (xs.zip ys) := by simp [posW, hx]
      rw [e, List.sum_cons, List.sum_cons]; omega
    · have e : posW ((x :: xs).zip (y :: ys)) = posW (xs.zip ys) := by simp [posW, hx]
      rw [e, List.sum_cons]; omega
theorem pos_zip : ∀ (xs ys : List Int), ys.length = xs.length → ((xs.zip ys).filter fun p => isPos p.1).map Prod.fst = xs.filter isPos
  | [], ys, _ => by simp
  | x :: xs, [], h => by simp at h
  | x :: xs, y :: ys, h => by
    have ih := pos_zip xs ys (by simpa using h)
    by_cases hx : isPos x = true
    · simp [hx, ih]
    · simp [hx, ih]
theorem posW_length {xs ys : List Int} (h : ys.length = xs.length) : (posW (xs.zip ys)).length = (xs.filter isPos).length := by
  rw [← pos_zip xs ys h, List.length_map]; unfold posW; rw [List.length_map]
theorem sumT_nonneg (m : List Int) : ∀ (xs ys : List Int), (∀ y ∈ ys, 0 ≤ y) → 0 ≤ sumT xs ys m
  | [], ys, _ => by simp [sumT]
  | x :: xs, [], _ => by simp [sumT]
  | x :: xs, y :: ys, h => by
    have h1 := h y (by simp)
    have h2 := sumT_nonneg m xs ys fun q hq => h q (by simp [hq])
    rw [sumT_cons]; split <;> omega
theorem sumT_split (m : List Int) : ∀ (xs ys : List Int), ys.length = xs.length → sumT xs ys m = negS m (xs.zip ys) + sumT (xs.filter isPos) (posW (xs.zip ys)) m
  | [], ys, h => by
    have : ys = [] := List.eq_nil_of_length_eq_zero (by simpa using h)
    subst this; simp [sumT, negS, posW]
  | x :: xs, [], h => by simp at h
  | x :: xs, y :: ys, h => by
    have ih := sumT_split m xs ys (by simpa using h)
    rw [sumT_cons, ih, List.zip_cons_cons, negS]
    by_cases hx : isPos x = true
    · have h0 : 0 < x := by simpa [isPos] using hx
      have e1 : posW ((x, y) :: xs.zip ys) = y :: posW (xs.zip ys) := by simp [posW, hx]
      rw [List.filter_cons_of_pos hx, e1, sumT_cons, if_neg (by omega : ¬ (x ≤ 0 ∧ -x ∉ m))]; omega
    · have h0 : ¬ 0 < x := by simpa [isPos] using hx
      have e1 : posW ((x, y) :: xs.zip ys) = posW (xs.zip ys) := by simp [posW, hx]
      rw [List.filter_cons_of_neg hx, e1]
      unfold trueB
      rw [if_neg h0]
      by_cases hm : -x ∈ m
      · rw [if_neg (by simp [hm]), if_neg (fun h => h.2 hm)]; omega
      · rw [if_pos (by simp [hm]), if_pos ⟨by omega, hm⟩]; omega
theorem all_filter {p q : Int → Bool} : ∀ (l : List Int), (∀ x ∈ l, q x = false → p x = true) → l.all p = (l.filter q).all p
  | [], _ => rfl
  | x :: r, h => by
    have ih := all_filter r fun z hz => h z (by simp [hz])
    by_cases hx : q x = true
    · rw [List.filter_cons_of_pos hx, List.all_cons, List.all_cons, ih]
    · rw [List.filter_cons_of_neg hx, List.all_cons, ih, h x (by simp) (by simpa using hx), Bool.true_and]
theorem body_red {r : GRule} {n : Int} (hi : RuleIs r n) {m : List Int} (hd : dropB r m = false) : bodyB (posRule r m) m = bodyB r m := by
  by_cases hs : r.sum = true
  · have hw := wtGo_spec r.w 0 (by omega) (by omega) (hi.wt hs)
    have hsp := sumT_split m r.body r.w (hi.wlen hs)
    have hnn := sumT_nonneg m (r.body.filter isPos) (posW (zp r)) fun y hy => by
      obtain ⟨x, hx⟩ := posW_mem hy
      have := hw.1 y (List.of_mem_zip hx).2; omega
    change sumT r.body r.w m = negS m (zp r) + sumT (r.body.filter isPos) (posW (zp r)) m at hsp
    unfold posRule
    rw [if_pos hs]
    have hb : bodyB r m = decide (r.bound ≤ sumT r.body r.w m) := by unfold bodyB; rw [if_pos hs]
    rw [hb, hsp]
    by_cases hz : r.bound - negS m (zp r) ≤ 0
    · rw [if_pos hz, decide_eq_true (by omega)]; rfl
    · rw [if_neg hz]
      show decide (r.bound - negS m (zp r) ≤ sumT (r.body.filter isPos) (posW (zp r)) m) = _
      rw [Bool.eq_iff_iff, decide_eq_true_eq, decide_eq_true_eq]; omega
  · have hf : r.sum = false := by simpa using hs
    unfold dropB at hd
    rw [hf] at hd
    simp only [Bool.not_false, Bool.true_and, List.any_eq_false] at hd
    unfold posRule bodyB
    simp only [hf, Bool.false_eq_true, if_false]
    refine (all_filter r.body fun x hx hq => ?_).symm
    have := hd x hx
    unfold badL at this
    rw [hq] at this
    simp at this
    have h0 : ¬ 0 < x := by simpa [isPos] using hq
    unfold trueB; rw [if_neg h0]; simp [this]
theorem drop_body {r : GRule} {m : List Int} (hd : dropB r m = true) : bodyB r m = false := by
  unfold dropB at hd
  simp only [Bool.and_eq_true, Bool.not_eq_true', List.any_eq_true] at hd
  obtain ⟨hf, x, hx, hb⟩ := hd
  unfold bodyB
  rw [hf]
  simp only [Bool.false_eq_true, if_false]
  rw [List.all_eq_false]
  refine ⟨x, hx, ?_⟩
  unfold badL at hb
  simp only [Bool.and_eq_true, Bool.not_eq_true', decide_eq_true_eq] at hb
  have h0 : ¬ 0 < x := by have := hb.1; simpa [isPos] using this
  unfold trueB; rw [if_neg h0]; simp [hb.2]
theorem posRule_body {r : GRule} {m : List Int} : ∀ x ∈ (posRule r m).body, 0 < x := by
  intro x hx
  unfold posRule at hx
  have key : x ∈ r.body.filter isPos → 0 < x := fun h => by simpa [isPos] using (List.mem_filter.1 h).2
  split at hx
  · split at hx
    · simp [zeroRule] at hx
    · exact key hx
  · exact key hx
theorem posRule_choice (r : GRule) (m : List Int) : (posRule r m).choice = false := by
  unfold posRule
  split
  · split <;> rfl
  · rfl
theorem posRule_is {r : GRule} {n : Int} (hi : RuleIs r n) (m : List Int) {hs : List Int} (hh : incB n hs = true) : ruleE { posRule r m with head := hs } n = 0 := by
  have h0 := hi.n0
  have h1 := hi.n1
  have hb := ordB_filter hi.body isPos
  unfold ruleE
  rw [if_neg (by omega), if_neg (by rw [hh]; simp [posRule_choice])]
  by_cases hsum : r.sum = true
  · have hw := wtGo_spec r.w 0 (by omega) (by omega) (hi.wt hsum)
    have hwl := hi.wlen hsum
    have hbb := negS_bd m r.body r.w (zp r).length fun y hy => by have := hw.1 y hy; omega
    rw [show (r.body.zip r.w).take (zp r).length = zp r from List.take_length] at hbb
    have hb0 := hi.b0 hsum
    have hb1 := hi.b1 hsum
    unfold posRule
    rw [if_pos hsum]
    by_cases hz : r.bound - negS m (zp r) ≤ 0
    · rw [if_pos hz]; simp [zeroRule, ordB, ordGo]
    · rw [if_neg hz]
      have hwt : wtB (posW (zp r)) (r.body.filter isPos).length = true := by
        unfold wtB
        rw [show (posW (zp r)).length = (r.body.filter isPos).length from posW_length hwl]
        have h2 := posW_sum r.body r.w fun y hy => by have := hw.1 y hy; omega
        have h3 : wtGo 0 (posW (zp r)) = true := wtGo_of _ 0 (fun y hy => by
          obtain ⟨x, hx⟩ := posW_mem hy
          exact hw.1 y (List.of_mem_zip hx).2) (by change (posW (zp r)).sum ≤ _ at h2; omega)
        simp [h3]
      simp only
      rw [if_neg (by rw [hb]; simp), if_neg]
      rw [hwt]; simp; omega
  · have hf : r.sum = false := by simpa using hsum
    have hp := hi.plain hf
    unfold posRule
    simp only [hf, Bool.false_eq_true, if_false]
    rw [if_neg (by rw [hb]; simp), if_neg (by simp [hp.2])]
theorem redOne_is {r : GRule} {n : Int} (hi : RuleIs r n) (m : List Int) : ∀ x ∈ redOne m r, ruleE x n = 0 ∧ x.choice = false ∧ ∀ b ∈ x.body, 0 < b := by
  intro x hx
  unfold redOne at hx
  split at hx
  · simp at hx
  · split at hx
    · obtain ⟨a, ha, rfl⟩ := List.mem_map.1 hx
      have := inc_mem hi.head a (List.mem_filter.1 ha).1
      exact ⟨posRule_is hi m (incB_one this.1 this.2), posRule_choice _ _, posRule_body⟩
    · simp at hx; subst hx
      exact ⟨posRule_is hi m hi.head, posRule_choice _ _, posRule_body⟩
theorem satB_head {r : GRule} {m hs : List Int} : satB { posRule r m with head := hs } m = (!bodyB (posRule r m) m || hs.any fun a => decide (a ∈ m)) := by
  unfold satB
  rw [show ({ posRule r m with head := hs } : GRule).choice = false from posRule_choice r m, Bool.false_or]
  rfl
theorem sat_red {r : GRule} {n : Int} (hi : RuleIs r n) (m : List Int) : (redOne m r).all (fun x => satB x m) = satB r m := by
  unfold redOne
  split
  · rename_i hd
    unfold satB; rw [drop_body hd]; simp
  · rename_i hd
    have hd : dropB r m = false := by simpa using hd
    split
    · rename_i hc
      have : satB r m = true := by unfold satB; rw [hc]; rfl
      rw [this, List.all_eq_true]
      intro x hx
      obtain ⟨a, ha, rfl⟩ := List.mem_map.1 hx
      rw [satB_head]
      have := (List.mem_filter.1 ha).2
      simp only [decide_eq_true_eq] at this
      simp [this]
    · rename_i hc
      rw [List.all_cons, List.all_nil, Bool.and_true, satB_head, body_red hi hd]
      unfold satB
      rw [show r.choice = false from by simpa using hc, Bool.false_or]
theorem model_red {n : Int} (m : List Int) : ∀ (rs : List GRule), (∀ r ∈ rs, RuleIs r n) → (reductL rs m).all (fun x => satB x m) = rs.all (fun x => satB x m)
  | [], _ => rfl
  | r :: t, h => by
    have ih := model_red m t fun x hx => h x (by simp [hx])
    have e : reductL (r :: t) m = redOne m r ++ reductL t m := by simp [reductL]
    rw [e, List.all_append, List.all_cons, ih, sat_red (h r (by simp)) m]
theorem reductL_is {n : Int} (m : List Int) : ∀ (rs : List GRule), (∀ r ∈ rs, RuleIs r n) → ∀ x ∈ reductL rs m, ruleE x n = 0 ∧ x.choice = false ∧ ∀ b ∈ x.body, 0 < b := fun rs h x hx => by
  unfold reductL at hx
  obtain ⟨r, hr, hx⟩ := List.mem_flatMap.1 hx
  exact redOne_is (h r hr) m x hx
theorem reductL_same (m : List Int) : ∀ (rs : List GRule), (∀ r ∈ rs, r.choice = false ∧ ∀ b ∈ r.body, 0 < b) → (reductL rs m).length = rs.length
  | [], _ => rfl
  | r :: t, h => by
    have ih := reductL_same m t fun x hx => h x (by simp [hx])
    have hr := h r (by simp)
    have hd : dropB r m = false := by
      unfold dropB
      rw [Bool.and_eq_false_iff]; right
      rw [List.any_eq_false]
      intro x hx
      have : isPos x = true := decide_eq_true (hr.2 x hx)
      unfold badL; rw [this]; simp
    have e : reductL (r :: t) m = redOne m r ++ reductL t m := by simp [reductL]
    have e2 : redOne m r = [{ posRule r m with head := r.head }] := by unfold redOne; rw [hd, hr.1]; rfl
    rw [e, e2, List.length_append, List.length_cons, List.length_cons, List.length_nil, ih]; omega
/-- A program of plain rules. -/
def withP (n : Int) (rs : List GRule) : GProg := ⟨n, List.replicate n.toNat ByteArray.empty, [], rs, []⟩
theorem namesGo_empty : ∀ k, namesGo [] (List.replicate k ByteArray.empty) = true
  | 0 => rfl
  | k + 1 => by
    rw [List.replicate_succ, namesGo_cons]
    have h1 : nlB ByteArray.empty = false := by decide
    have h2 : hasS ByteArray.empty [] = false := rfl
    rw [h1, h2, if_pos (show ByteArray.empty.size = 0 from rfl), namesGo_empty k]
    decide
theorem withP_valid {n : Int} {rs : List GRule} (h0 : 0 ≤ n) (h1 : n ≤ 4000) (hl : rs.length ≤ 40000) (hr : ∀ r ∈ rs, ruleE r n = 0) : validE (withP n rs) = 0 := by
  have hn : namedB (withP n rs) = true := by
    unfold namedB withP
    simp only [namesGo_empty]
    have : incB n [] = true := rfl
    simp [this, h0, h1]; omega
  have hrs : ∀ (l : List GRule), (∀ r ∈ l, ruleE r n = 0) → rulesE n l = 0 := by
    intro l
    induction l with
    | nil => intro _; rfl
    | cons r t ih => intro h; unfold rulesE; rw [h r (by simp)]; simp [ih fun x hx => h x (by simp [hx])]
  unfold validE
  rw [hn, if_neg (by decide), if_neg (show ¬ 40000 < (withP n rs).rules.length by simp only [withP]; omega), if_neg (show ¬ rulesE (withP n rs).n (withP n rs).rules ≠ 0 from fun h => h (hrs rs hr))]
  rfl
end Go.Proofs.Ytbfbkpoakmnlpaa
/- The contract of ostlerlaw19.Subset. -/
namespace Go.Proofs.Ytbfbkpoakmnlpaa
open Go.RowKit

/-- Bit k of a number of 16 bits. -/
def bitB (bits : Int) (k : Nat) : Bool := Go.bits BinOp.and IntKind.u16 (bits / 2 ^ k) 1 == 1
def subL (bits : Int) (k : Nat) : List Int := ((List.range k).filter (bitB bits)).map (fun (i : Nat) => (i : Int) + 1)
def subsetL (n bits : Int) : List Int := subL bits (min n.toNat 16)
theorem subL_succ (bits : Int) (k : Nat) : subL bits (k + 1) = if bitB bits k then subL bits k ++ [(k : Int) + 1] else subL bits k := by
  unfold subL
  rw [List.range_succ, List.filter_append, List.map_append]
  by_cases h : bitB bits k = true <;> simp [h]
theorem subL_len (bits : Int) (k : Nat) : (subL bits k).length ≤ k := by
  unfold subL
  rw [List.length_map]
  have := List.length_filter_le (bitB bits) (List.range k)
  simpa using this
theorem subL_mem {bits : Int} {k : Nat} {x : Int} (h : x ∈ subL bits k) : 1 ≤ x ∧ x ≤ (k : Int) := by
  unfold subL at h
  obtain ⟨i, hi, rfl⟩ := List.mem_map.1 h
  have := List.mem_range.1 (List.mem_filter.1 hi).1
  omega
theorem subL_inc (bits n : Int) : ∀ k : Nat, (k : Int) ≤ n → ordGo n none (subL bits k) = true ∧ ∀ y, (∀ x ∈ subL bits k, x < y) → 1 ≤ y → y ≤ n → ordGo n none (subL bits k ++ [y]) = true := by
  have snoc : ∀ (l : List Int) (p : Option Int) (y : Int), ordGo n p l = true → (∀ x ∈ l, 0 < x ∧ x < y) → (∀ z, p = some z → 0 < z ∧ z < y) → 1 ≤ y → y ≤ n → ordGo n p (l ++ [y]) = true := by
    intro l
    have lt : ∀ a b : Int, 0 < a → a < b → litLt a b = true := fun a b h1 h2 => by
      unfold litLt absI
      rw [if_neg (by omega), if_neg (by omega)]
      simp; omega
    induction l with
    | nil =>
      intro p y _ _ hp h1 h2
      rw [List.nil_append, ordGo_cons]
      have : litB y n = true := by simp [litB]; omega
      rw [this]
      cases p with
      | none => rfl
      | some z => have := hp z rfl; simp [lt z y this.1 this.2, ordGo]
    | cons x r ih =>
      intro p y h hx hp h1 h2
      rw [List.cons_append, ordGo_cons]
      rw [ordGo_cons, Bool.and_eq_true] at h
      have hxx := hx x (by simp)
      rw [h.1, ih (some x) y h.2 (fun z hz => hx z (by simp [hz])) (fun z e => by cases e; exact hxx) h1 h2]
      rfl
  intro k
  induction k with
  | zero =>
    intro _
    exact ⟨rfl, fun y _ h1 h2 => snoc _ none y rfl (by simp [subL]) (by simp) h1 h2⟩
  | succ k ih =>
    intro hk
    have ih := ih (by omega)
    have h0 : ordGo n none (subL bits (k + 1)) = true := by
      rw [subL_succ]
      split
      · exact ih.2 _ (fun x hx => by have := subL_mem hx; omega) (by omega) (by omega)
      · exact ih.1
    exact ⟨h0, fun y hy h1 h2 => snoc _ none y h0 (fun x hx => ⟨by have := subL_mem hx; omega, hy x hx⟩) (by simp) h1 h2⟩
theorem subset_inc (n bits : Int) (h0 : 0 ≤ n) : incB n (subsetL n bits) = true := by
  unfold incB ordB subsetL
  rw [(subL_inc bits n _ (by omega)).1, Bool.true_and, List.all_eq_true]
  intro x hx
  have := subL_mem hx
  simp; omega

end Go.Proofs.Ytbfbkpoakmnlpaa
/- Definite rules (plain): what ostlerlaw19.definite makes of a rule; larger sets and more rules. -/
namespace Go.Proofs.Ytbfbkpoakmnlpaa
open Go.RowKit

def defOne (r : GRule) : GRule := ⟨false, r.head.take 1, r.sum, r.bound, r.body.filter isPos, if r.sum then posW (zp r) else []⟩
def defL (rs : List GRule) : List GRule := rs.map defOne
theorem incB_sub {n : Int} {xs ys : List Int} (h : incB n xs = true) (hs : ys.Sublist xs) : incB n ys = true := by
  unfold incB at *
  rw [Bool.and_eq_true] at *
  obtain ⟨h1, h2, _⟩ := (ordGo_iff n xs none).1 h.1
  exact ⟨(ordGo_iff n _ none).2 ⟨fun x hx => h1 x (hs.subset hx), h2.sublist hs, fun _ e => by cases e⟩, List.all_eq_true.2 fun x hx => List.all_eq_true.1 h.2 x (hs.subset hx)⟩
theorem defOne_is {r : GRule} {n : Int} (hi : RuleIs r n) : ruleE (defOne r) n = 0 := by
  have h0 := hi.n0
  have h1 := hi.n1
  have hb := ordB_filter hi.body isPos
  have hh := incB_sub hi.head (List.take_sublist 1 r.head)
  by_cases hsum : r.sum = true
  · have hw := wtGo_spec r.w 0 (by omega) (by omega) (hi.wt hsum)
    have hwl := hi.wlen hsum
    have hb0 := hi.b0 hsum
    have hb1 := hi.b1 hsum
    have hwt : wtB (posW (zp r)) (r.body.filter isPos).length = true := by
      unfold wtB
      rw [show (posW (zp r)).length = (r.body.filter isPos).length from posW_length hwl]
      have h2 := posW_sum r.body r.w fun y hy => by have := hw.1 y hy; omega
      have h3 : wtGo 0 (posW (zp r)) = true := wtGo_of _ 0 (fun y hy => by
        obtain ⟨x, hx⟩ := posW_mem hy
        exact hw.1 y (List.of_mem_zip hx).2) (by change (posW (zp r)).sum ≤ _ at h2; omega)
      simp [h3]
    have e : defOne r = ⟨false, r.head.take 1, true, r.bound, r.body.filter isPos, posW (zp r)⟩ := by unfold defOne; rw [hsum]; rfl
    rw [e]
    unfold ruleE
    rw [if_neg (by omega), if_neg (by rw [hh]; simp), if_neg (by rw [hb]; simp), if_neg]
    rw [hwt]; simp; omega
  · have hf : r.sum = false := by simpa using hsum
    have hp := hi.plain hf
    have e : defOne r = ⟨false, r.head.take 1, false, r.bound, r.body.filter isPos, []⟩ := by unfold defOne; rw [hf]; rfl
    rw [e]
    unfold ruleE
    rw [if_neg (by omega), if_neg (by rw [hh]; simp), if_neg (by rw [hb]; simp), if_neg (by simp [hp.2])]
theorem defOne_def {r : GRule} {n : Int} (hi : RuleIs r n) : defR n (defOne r) = true := by
  unfold defR
  rw [defOne_is hi]
  have h1 : (defOne r).body.all (fun x => decide (0 ≤ x)) = true := by
    rw [List.all_eq_true]
    intro x hx
    have : isPos x = true := (List.mem_filter.1 hx).2
    unfold isPos at this
    simp at this ⊢; omega
  rw [h1]
  have h2 : (defOne r).head.length ≤ 1 := List.length_take_le _ _
  simp only [decide_true, Bool.true_and, Bool.and_true, Bool.and_eq_true, decide_eq_true_eq]
  exact ⟨rfl, h2⟩
theorem defL_def {n : Int} {rs : List GRule} (h : ∀ r ∈ rs, RuleIs r n) : ∀ r ∈ defL rs, defR n r = true := fun r hr => by
  obtain ⟨q, hq, rfl⟩ := List.mem_map.1 hr
  exact defOne_def (h q hq)
theorem defB_of {n : Int} {rs : List GRule} (h0 : 0 ≤ n) (h1 : n ≤ 4000) (hl : rs.length ≤ 40000) (h : ∀ r ∈ rs, defR n r = true) : defB n rs = true := by
  unfold defB
  rw [decide_eq_true h0, decide_eq_true h1, decide_eq_true hl, List.all_eq_true.2 h]; rfl
theorem sumP_mono {m m' : List Int} (hs : ∀ x ∈ m, x ∈ m') : ∀ l : List (Int × Int), (∀ p ∈ l, 1 ≤ p.2) → sumP m l ≤ sumP m' l
  | [], _ => by simp [sumP]
  | p :: r, h => by
    have ih := sumP_mono hs r fun q hq => h q (by simp [hq])
    have hp := h p (by simp)
    simp only [sumP]
    by_cases h1 : p.1 ∈ m
    · rw [if_pos h1, if_pos (hs _ h1)]; omega
    · rw [if_neg h1]; split <;> omega
/-- A larger set makes true what a smaller one does. -/
theorem body_mono {r : GRule} {n : Int} (h : DefIs r n) {m m' : List Int} (hs : ∀ x ∈ m, x ∈ m') (hb : bodyB r m = true) : bodyB r m' = true := by
  have h1 := (body_need r m h.pos).1 hb
  have h2 := sumP_mono hs (bp r) fun p hp => (bp_bd h p hp).1
  refine (body_need r m' h.pos).2 ?_
  unfold needF at *
  omega
theorem deriv_mono {n : Int} {rs rs' : List GRule} (hd : ∀ r ∈ rs', defR n r = true) (hsub : ∀ r ∈ rs, r ∈ rs') {m m' : List Int} (hs : ∀ x ∈ m, x ∈ m') {a : Int} (h : derivB rs m a = true) : derivB rs' m' a = true := by
  unfold derivB at *
  rw [List.any_eq_true] at *
  obtain ⟨r, hr, hb⟩ := h
  refine ⟨r, hsub r hr, ?_⟩
  unfold derB at *
  rw [Bool.and_eq_true] at *
  exact ⟨hb.1, body_mono (defR_is (hd r (hsub r hr))) hs hb.2⟩
/- Stages. -/
theorem stage_keep (rs : List GRule) (n k j : Nat) (h : (stageF rs n k).1 j ≠ 0) : ∀ d, (stageF rs n (k + d)).1 j = (stageF rs n k).1 j
  | 0 => rfl
  | d + 1 => by
    have ih := stage_keep rs n k j h d
    have e : (stageF rs n (k + (d + 1))).1 j = if (stageF rs n (k + d)).1 j = 0 ∧ derivB rs (stageF rs n (k + d)).2 ((j : Int) + 1) = true then ((k + d : Nat) : Int) + 1 else (stageF rs n (k + d)).1 j := rfl
    rw [e, ih, if_neg (fun hx => h hx.1)]
theorem stage_le (rs : List GRule) (n j : Nat) {k m : Nat} (hkm : k ≤ m) (h : (stageF rs n k).1 j ≠ 0) : (stageF rs n m).1 j = (stageF rs n k).1 j := by
  obtain ⟨d, rfl⟩ : ∃ d, m = k + d := ⟨m - k, by omega⟩
  exact stage_keep rs n k j h d
/-- Where a round comes from. -/
theorem stage_round (rs : List GRule) (n j : Nat) : ∀ m, (stageF rs n m).1 j ≠ 0 → ∃ k, k < m ∧ (stageF rs n m).1 j = (k : Int) + 1 ∧ (stageF rs n k).1 j = 0 ∧ derivB rs (stageF rs n k).2 ((j : Int) + 1) = true
  | 0, h => absurd rfl h
  | m + 1, h => by
    by_cases hz : (stageF rs n m).1 j = 0
    · have h1 : (stageF rs n (m + 1)).1 j = (m : Int) + 1 := by
        rcases (stage_split rs n m j).2.1 h with h2 | h2
        · exact absurd hz h2
        · exact h2
      exact ⟨m, by omega, h1, (stage_split rs n m j).1.1 h1⟩
    · obtain ⟨k, h1, h2, h3, h4⟩ := stage_round rs n j m hz
      exact ⟨k, by omega, by rw [stage_le rs n j (Nat.le_succ m) hz]; exact h2, h3, h4⟩
/-- More rules have larger stages. -/
theorem stage_sub {n : Nat} {rs rs' : List GRule} (hd : ∀ r ∈ rs', defR n r = true) (hsub : ∀ r ∈ rs, r ∈ rs') : ∀ k, ∀ x ∈ (stageF rs n k).2, x ∈ (stageF rs' n k).2
  | 0, x, hx => by simp [stageF] at hx
  | k + 1, x, hx => by
    have ih := stage_sub hd hsub k
    obtain ⟨j, hj, rfl, hne⟩ := (stage_in rs n (k + 1) x).1 hx
    refine (stage_in rs' n (k + 1) _).2 ⟨j, hj, rfl, ?_⟩
    rcases (stage_split rs n k j).2.1 hne with h | h
    · obtain ⟨i, _, e, h2⟩ := (stage_in rs' n k _).1 (ih _ ((stage_in rs n k _).2 ⟨j, hj, rfl, h⟩))
      obtain rfl : i = j := by omega
      exact (stage_split rs' n k i).2.2 (.inl h2)
    · by_cases hz : (stageF rs' n k).1 j = 0
      · exact (stage_split rs' n k j).2.2 (.inr ((stage_split rs' n k j).1.2 ⟨hz, deriv_mono hd hsub ih ((stage_split rs n k j).1.1 h).2⟩))
      · exact (stage_split rs' n k j).2.2 (.inl hz)
theorem rounds_sub {n : Nat} {rs rs' : List GRule} (hd : ∀ r ∈ rs', defR n r = true) (hsub : ∀ r ∈ rs, r ∈ rs') {i : Nat} (hi : i < n) {x y : Int} (hx : x = (stageF rs n n).1 i) (hy : y = (stageF rs' n n).1 i) (h0 : 0 < x) : y ≠ 0 ∧ y ≤ x := by
  subst hx hy
  obtain ⟨k, hk, e, h1, h2⟩ := stage_round rs n i n (by omega)
  have h3 := (stage_split rs n k i).1.2 ⟨h1, h2⟩
  obtain ⟨j, _, e2, h4⟩ := (stage_in rs' n (k + 1) _).1 (stage_sub hd hsub (k + 1) _ ((stage_in rs n (k + 1) _).2 ⟨i, hi, rfl, by omega⟩))
  obtain rfl : j = i := by omega
  have h5 := stage_bd rs' n (k + 1) j
  rw [stage_le rs' n j (show k + 1 ≤ n by omega) h4]
  refine ⟨h4, ?_⟩
  rw [e]; omega
/- Sets by bits. -/
theorem bitB_or {a b : Int} {k : Nat} (ha0 : 0 ≤ a) (ha1 : a ≤ 65535) (hb0 : 0 ≤ b) (hb1 : b ≤ 65535) (h : bitB a k = true) : bitB (Go.bits BinOp.or IntKind.u16 a b) k = true := by
  obtain ⟨x, rfl⟩ := Int.eq_ofNat_of_zero_le ha0
  obtain ⟨y, rfl⟩ := Int.eq_ofNat_of_zero_le hb0
  have hlt : x ||| y < 65536 := Nat.or_lt_two_pow (n := 16) (by omega) (by omega)
  have key : ∀ z : Nat, z < 65536 → bitB (z : Int) k = Nat.testBit z k := fun z hz => by
    unfold bitB
    have e : ((z : Int) / 2 ^ k) = ((z / 2 ^ k : Nat) : Int) := by push_cast; rfl
    have hd : z / 2 ^ k ≤ z := Nat.div_le_self _ _
    rw [e, show (1 : Int) = ((1 : Nat) : Int) from rfl, u16_and_nat _ 1 (by omega) (by decide), Nat.testBit, Nat.shiftRight_eq_div_pow]
    generalize z / 2 ^ k = q
    have h1 : q &&& 1 = q % 2 := Nat.and_one_is_mod q
    have h2 : 1 &&& q = q % 2 := by rw [Nat.and_comm]; exact h1
    rw [h1, h2]
    rcases Nat.mod_two_eq_zero_or_one q with h3 | h3 <;> simp [h3]
  rw [u16_or_nat x y (by omega) (by omega), key _ hlt]
  rw [key x (by omega)] at h
  rw [Nat.testBit_or, h]; rfl
theorem subset_or {n a b : Int} (ha0 : 0 ≤ a) (ha1 : a ≤ 65535) (hb0 : 0 ≤ b) (hb1 : b ≤ 65535) : ∀ x ∈ subsetL n a, x ∈ subsetL n (Go.bits BinOp.or IntKind.u16 a b) := fun x hx => by
  unfold subsetL subL at *
  obtain ⟨i, hi, rfl⟩ := List.mem_map.1 hx
  obtain ⟨h1, h2⟩ := List.mem_filter.1 hi
  exact List.mem_map.2 ⟨i, List.mem_filter.2 ⟨h1, bitB_or ha0 ha1 hb0 hb1 h2⟩, rfl⟩
theorem or_u16 {a b : Int} (ha0 : 0 ≤ a) (ha1 : a ≤ 65535) (hb0 : 0 ≤ b) (hb1 : b ≤ 65535) : 0 ≤ Go.bits BinOp.or IntKind.u16 a b ∧ Go.bits BinOp.or IntKind.u16 a b ≤ 65535 := by
  obtain ⟨x, rfl⟩ := Int.eq_ofNat_of_zero_le ha0
  obtain ⟨y, rfl⟩ := Int.eq_ofNat_of_zero_le hb0
  have hlt : x ||| y < 65536 := Nat.or_lt_two_pow (n := 16) (by omega) (by omega)
  rw [u16_or_nat x y (by omega) (by omega)]; omega
end Go.Proofs.Ytbfbkpoakmnlpaa
/- ReductSums (plain): a body without weights as a sum; a literal and its negation together; a factor. -/
namespace Go.Proofs.Ytbfbkpoakmnlpaa
open Go.RowKit

def sumR (r : GRule) : GRule := if r.sum then r else ⟨false, [], true, (r.body.length : Int), r.body, List.replicate r.body.length 1⟩
def moreR (r : GRule) (f : Int) : GRule := ⟨false, [], true, r.bound * f + 7, r.body ++ [1, -1], r.w.map (fun x => min (x * f) 1048576) ++ [7, 7]⟩
def bigB (r : GRule) (f : Int) : Bool := r.w.any (fun x => decide (1048576 < x * f))
theorem sumT_ones (m : List Int) : ∀ xs : List Int, sumT xs (List.replicate xs.length 1) m ≤ xs.length ∧ (((xs.length : Int) ≤ sumT xs (List.replicate xs.length 1) m) ↔ xs.all (fun x => trueB x m) = true)
  | [] => by simp [sumT]
  | x :: xs => by
    obtain ⟨h1, h2⟩ := sumT_ones m xs
    rw [List.length_cons, List.replicate_succ, sumT_cons, List.all_cons, Bool.and_eq_true, ← h2]
    cases ht : trueB x m with
    | true => simp; omega
    | false => simp; omega
theorem sumT_append (m : List Int) : ∀ (xs ys us vs : List Int), ys.length = xs.length → sumT (xs ++ us) (ys ++ vs) m = sumT xs ys m + sumT us vs m
  | [], [], us, vs, _ => by simp [sumT]
  | x :: xs, y :: ys, us, vs, h => by
    rw [List.cons_append, List.cons_append, sumT_cons, sumT_cons, sumT_append m xs ys us vs (by simpa using h)]; omega
  | [], y :: ys, _, _, h => by simp at h
  | x :: xs, [], _, _, h => by simp at h
theorem sumT_both (m : List Int) : sumT [1, -1] [7, 7] m = 7 := by
  by_cases h : (1 : Int) ∈ m <;> simp [sumT, trueB, h]
theorem sumT_mul (m : List Int) (f : Int) : ∀ (xs ys : List Int), (∀ y ∈ ys, y * f ≤ 1048576) → sumT xs (ys.map fun x => min (x * f) 1048576) m = sumT xs ys m * f
  | [], _, _ => by simp [sumT]
  | _ :: _, [], _ => by simp [sumT]
  | x :: xs, y :: ys, h => by
    rw [List.map_cons, sumT_cons, sumT_cons, sumT_mul m f xs ys fun z hz => h z (by simp [hz]), Int.add_mul, show min (y * f) 1048576 = y * f from by have := h y (by simp); omega]
    split <;> simp
theorem bad_of {r : GRule} (h1 : r.body.length ≤ 8000) (h2 : ∀ x ∈ r.body, x ≠ 0 ∧ -9223372036854775808 < x) (h3 : r.sum = true → r.w.length = r.body.length) : badB r = false := by
  unfold badB
  have e1 : decide ((0 : Int) ∈ r.body) = false := decide_eq_false fun h => (h2 0 h).1 rfl
  have e2 : decide ((-9223372036854775808 : Int) ∈ r.body) = false := decide_eq_false fun h => by have := (h2 _ h).2; omega
  rw [e1, e2, decide_eq_false (show ¬ 8000 < r.body.length by omega)]
  cases hs : r.sum with
  | false => rfl
  | true => simp [h3 hs]
theorem wOut_ok {l : List Int} (h : ∀ y ∈ l, 0 ≤ y ∧ y ≤ 1048576) : l.any wOut = false := by
  rw [List.any_eq_false]
  intro y hy
  have := h y hy
  simp [wOut]; omega
/-- A body whose numbers are small. -/
structure SumIs (r : GRule) : Prop where
  len : r.body.length ≤ 36
  lit : ∀ x ∈ r.body, x ≠ 0 ∧ -4000 ≤ x ∧ x ≤ 4000
  wlen : r.sum = true → r.w.length = r.body.length
  w0 : r.sum = true → ∀ y ∈ r.w, 0 ≤ y ∧ y ≤ 1048576
  b0 : r.sum = true → 0 ≤ r.bound ∧ r.bound ≤ 1048576
theorem SumIs.bodyC {r : GRule} (h : SumIs r) (m : List Int) : bodyC r m = bodyB r m := by
  unfold Proofs.Ytbfbkpoakmnlpaa.bodyC
  rw [bad_of (by have := h.len; omega) (fun x hx => by have := h.lit x hx; omega) h.wlen]
  cases hs : r.sum with
  | false => simp
  | true => simp [wOut_ok (h.w0 hs)]
theorem SumIs.sumR {r : GRule} (h : SumIs r) : SumIs (sumR r) ∧ (Proofs.Ytbfbkpoakmnlpaa.sumR r).sum = true := by
  unfold Proofs.Ytbfbkpoakmnlpaa.sumR
  cases hs : r.sum with
  | true => simp only [if_true]; exact ⟨h, hs⟩
  | false =>
    refine ⟨⟨h.len, h.lit, fun _ => by simp, fun _ y hy => ?_, fun _ => ?_⟩, rfl⟩
    · simp at hy; omega
    · have := h.len; simp; omega
theorem sumR_body {r : GRule} (h : SumIs r) (m : List Int) : Proofs.Ytbfbkpoakmnlpaa.bodyC (sumR r) m = Proofs.Ytbfbkpoakmnlpaa.bodyC r m := by
  rw [h.sumR.1.bodyC, h.bodyC]
  unfold sumR
  cases hs : r.sum with
  | true => simp
  | false =>
    simp only [Bool.false_eq_true, if_false]
    unfold bodyB
    rw [hs]
    simp only [if_true, Bool.false_eq_true, if_false]
    rw [Bool.eq_iff_iff, decide_eq_true_eq]
    exact (sumT_ones m r.body).2
theorem more_body {r : GRule} (h : SumIs r) (hs : r.sum = true) (f : Int) (h1 : 1 ≤ f) (hb : bigB r f = false) (m : List Int) : Proofs.Ytbfbkpoakmnlpaa.bodyC (moreR r f) m = Proofs.Ytbfbkpoakmnlpaa.bodyC r m := by
  have hle : ∀ y ∈ r.w, y * f ≤ 1048576 := fun y hy => by
    unfold bigB at hb
    have := List.any_eq_false.1 hb y hy
    simpa using this
  have hl := h.wlen hs
  have hbad : badB (moreR r f) = false := bad_of (by have := h.len; simp [moreR]; omega) (fun x hx => by
    simp only [moreR, List.mem_append, List.mem_cons, List.not_mem_nil, or_false] at hx
    rcases hx with hx | rfl | rfl
    · have := h.lit x hx; omega
    · omega
    · omega) (fun _ => by simp [moreR, hl])
  have hw : (moreR r f).w.any wOut = false := wOut_ok fun y hy => by
    simp only [moreR, List.mem_append, List.mem_map, List.mem_cons, List.not_mem_nil, or_false] at hy
    rcases hy with ⟨x, hx, rfl⟩ | rfl | rfl
    · have h0 : 0 ≤ x * f := Int.mul_nonneg (h.w0 hs x hx).1 (by omega)
      omega
    · omega
    · omega
  rw [h.bodyC]
  unfold Proofs.Ytbfbkpoakmnlpaa.bodyC
  rw [hbad, hw]
  simp only [Bool.not_false, Bool.and_false, Bool.true_and]
  have e : ∀ q : GRule, q.sum = true → bodyB q m = decide (q.bound ≤ sumT q.body q.w m) := fun q hq => by unfold bodyB; rw [if_pos hq]
  rw [e _ (show (moreR r f).sum = true from rfl), e _ hs, Bool.eq_iff_iff, decide_eq_true_eq, decide_eq_true_eq]
  show r.bound * f + 7 ≤ sumT (r.body ++ [1, -1]) (r.w.map (fun x => min (x * f) 1048576) ++ [7, 7]) m ↔ _
  rw [sumT_append m _ _ _ _ (by simp [hl]), sumT_both, sumT_mul m f _ _ hle]
  constructor
  · intro hx
    exact Int.le_of_mul_le_mul_right (by omega) (show 0 < f by omega)
  · intro hx
    have := Int.mul_le_mul_of_nonneg_right hx (show 0 ≤ f by omega)
    omega
theorem mem_le_sum : ∀ {l : List Int}, (∀ x ∈ l, 1 ≤ x) → ∀ {y : Int}, y ∈ l → y ≤ l.sum
  | [], _, y, hy => by simp at hy
  | z :: r, h, y, hy => by
    have h0 : 0 ≤ r.sum := sum_nonneg fun x hx => by have := h x (by simp [hx]); omega
    have hz := h z (by simp)
    rcases List.mem_cons.1 hy with rfl | hy
    · simp; omega
    · have := mem_le_sum (fun x hx => h x (by simp [hx])) hy
      simp; omega
/-- The rules of a valid program of few parts have small bodies. -/
theorem sumIs_of {r : GRule} {n : Int} (h : RuleIs r n) (hl : r.head.length + r.body.length + r.w.length ≤ 36) : SumIs r := by
  have hsum : r.sum = true → (∀ x ∈ r.w, 1 ≤ x) ∧ 0 + r.w.sum ≤ 1048576 := fun hs => wtGo_spec r.w 0 (by omega) (by omega) (h.wt hs)
  refine ⟨by omega, fun x hx => ?_, h.wlen, fun hs y hy => ?_, fun hs => ⟨h.b0 hs, h.b1 hs⟩⟩
  · have h1 := ordGo_mem n r.body none h.body x hx
    have h2 := litB_bd h1
    have h3 := h.n1
    have h4 : x ≠ 0 := by simp [litB] at h1; exact h1.1
    omega
  · have h1 := (hsum hs).1
    have h2 := (hsum hs).2
    have h3 := mem_le_sum h1 hy
    have := h1 y hy
    omega
theorem few_rule {p : GProg} (h : fewB p = true) : ∀ r ∈ p.rules, r.head.length + r.body.length + r.w.length ≤ 36 := by
  unfold fewB at h
  simp only [Bool.and_eq_true, decide_eq_true_eq, List.all_eq_true] at h
  exact h.2.2.1
theorem sums_of {p : GProg} (hf : fewB p = true) (hv : validE p = 0) : ∀ r ∈ p.rules, SumIs r := fun r hr => sumIs_of ((validE_is hv).rules r hr) (few_rule hf r hr)
end Go.Proofs.Ytbfbkpoakmnlpaa
/- Stable models (plain): what package stable computes; rules whose body is false change nothing. -/
namespace Go.Proofs.Ytbfbkpoakmnlpaa

/-- The elements of a list whose bit is set. -/
def pickL : List Int → Nat → List Int
  | [], _ => []
  | a :: t, b => if b % 2 = 1 then a :: pickL t (b / 2) else pickL t (b / 2)
/-- All subsets, the set itself last. -/
def subsL (m : List Int) : List (List Int) := (List.range (2 ^ m.length)).map (pickL m)
def satL (rs : List GRule) (m : List Int) : Bool := rs.all (fun r => satB r m)
def minL (rs : List GRule) (m : List Int) : Bool := match (subsL m).find? (satL rs) with
  | some s => decide (s.length = m.length)
  | none => false
def disB (p : GProg) : Bool := p.rules.any (fun r => !r.choice && decide (1 < r.head.length))
def isL (p : GProg) (m : List Int) : Bool := modelB p m && (if disB p then minL (reductL p.rules m) m else decide (leastL (reductL p.rules m) p.n.toNat = m))
/-- The subsets of a list in the order of lists. -/
def lexS : List Int → List (List Int)
  | [] => [[]]
  | a :: t => [] :: ((lexS t).map (a :: ·) ++ (lexS t).tail)
def atomsL (n : Nat) : List Int := (List.range n).map fun (i : Nat) => (i : Int) + 1
def allL (p : GProg) : List (List Int) := (lexS (atomsL p.n.toNat)).filter (isL p)

theorem pickL_sub : ∀ (m : List Int) (b : Nat), (pickL m b).Sublist m
  | [], _ => List.Sublist.refl _
  | a :: t, b => by
    have ih := pickL_sub t (b / 2)
    unfold pickL
    split
    · exact ih.cons_cons a
    · exact ih.cons a
theorem pickL_all : ∀ (m : List Int), pickL m (2 ^ m.length - 1) = m
  | [] => rfl
  | a :: t => by
    have ih := pickL_all t
    have h0 : 0 < 2 ^ t.length := Nat.pos_of_ne_zero (by simp)
    have e : 2 ^ (a :: t).length - 1 = 2 * (2 ^ t.length - 1) + 1 := by rw [List.length_cons, Nat.pow_succ]; omega
    unfold pickL
    rw [e, if_pos (by omega), show (2 * (2 ^ t.length - 1) + 1) / 2 = 2 ^ t.length - 1 by omega, ih]
theorem pickL_len : ∀ (m : List Int) (b : Nat), b < 2 ^ m.length → (pickL m b).length = m.length → b = 2 ^ m.length - 1
  | [], b, h, _ => by simp at h; simp [h]
  | a :: t, b, h, hl => by
    have h0 : 0 < 2 ^ t.length := Nat.pos_of_ne_zero (by simp)
    rw [List.length_cons, Nat.pow_succ] at h
    have hle := (pickL_sub t (b / 2)).length_le
    unfold pickL at hl
    rw [List.length_cons, Nat.pow_succ]
    split at hl
    · have := pickL_len t (b / 2) (by omega) (by simpa using hl)
      omega
    · rw [List.length_cons] at hl; omega
theorem sub_pick : ∀ {m s : List Int}, s.Sublist m → ∃ b, b < 2 ^ m.length ∧ pickL m b = s
  | [], s, h => by
    have : s = [] := List.sublist_nil.1 h
    exact ⟨0, by simp, by rw [this]; rfl⟩
  | a :: t, s, h => by
    rcases List.sublist_cons_iff.1 h with h1 | ⟨s', rfl, h1⟩
    · obtain ⟨b, hb, e⟩ := sub_pick h1
      exact ⟨2 * b, by rw [List.length_cons, Nat.pow_succ]; omega, by unfold pickL; rw [if_neg (by omega), show 2 * b / 2 = b by omega, e]⟩
    · obtain ⟨b, hb, e⟩ := sub_pick h1
      exact ⟨2 * b + 1, by rw [List.length_cons, Nat.pow_succ]; omega, by unfold pickL; rw [if_pos (by omega), show (2 * b + 1) / 2 = b by omega, e]⟩
/-- A set is minimal: it satisfies the rules, and no other subset does. -/
theorem minL_iff (rs : List GRule) (m : List Int) : minL rs m = true ↔ satL rs m = true ∧ ∀ s : List Int, s.Sublist m → satL rs s = true → s = m := by
  have h0 : 0 < 2 ^ m.length := Nat.pos_of_ne_zero (by simp)
  have hmem : m ∈ subsL m := List.mem_map.2 ⟨2 ^ m.length - 1, List.mem_range.2 (by omega), pickL_all m⟩
  unfold minL
  constructor
  · intro h
    cases hf : (subsL m).find? (satL rs) with
    | none => rw [hf] at h; cases h
    | some s =>
      rw [hf] at h
      have hl : s.length = m.length := by simpa using h
      obtain ⟨hs, pr, bs, e, hbef⟩ := List.find?_eq_some_iff_append.1 hf
      have hsm : s ∈ subsL m := by rw [e]; simp
      obtain ⟨b, hb, rfl⟩ := List.mem_map.1 hsm
      have hb2 := pickL_len m b (List.mem_range.1 hb) hl
      have hsm2 : pickL m b = m := by rw [hb2]; exact pickL_all m
      refine ⟨by rw [← hsm2]; exact hs, fun s' hs' hsat => ?_⟩
      obtain ⟨b', hb', rfl⟩ := sub_pick hs'
      by_cases hlast : b' = 2 ^ m.length - 1
      · rw [hlast]; exact pickL_all m
      · exfalso
        have hin : pickL m b' ∈ subsL m := List.mem_map.2 ⟨b', List.mem_range.2 hb', rfl⟩
        rw [e] at hin
        rcases List.mem_append.1 hin with h1 | h1
        · have := hbef _ h1
          rw [hsat] at this; cases this
        · have hlen : (subsL m).length = 2 ^ m.length := by simp [subsL]
          have hlast2 : (subsL m)[2 ^ m.length - 1]? = some m := by
            unfold subsL; rw [List.getElem?_map, List.getElem?_range (by omega)]; simp [pickL_all]
          rcases List.mem_cons.1 h1 with h2 | h2
          · have h3 := pickL_len m b' hb' (by rw [h2]; exact hl)
            exact hlast h3
          · -- behind s nothing comes: s is the last
            have hs3 : ∀ i, (subsL m)[i]? = some (pickL m b) → i = 2 ^ m.length - 1 := fun i hi => by
              unfold subsL at hi
              rw [List.getElem?_map, Option.map_eq_some_iff] at hi
              obtain ⟨x, hx, hx2⟩ := hi
              have hxl := List.getElem?_eq_some_iff.1 hx
              obtain ⟨hlt, hxe⟩ := hxl
              rw [List.length_range] at hlt
              rw [List.getElem_range] at hxe
              subst hxe
              exact pickL_len m i hlt (by rw [hx2]; exact hl)
            have h4 := hs3 pr.length (by rw [e]; simp)
            have h5 : pr.length + 1 + bs.length = 2 ^ m.length := by rw [← hlen, e]; simp; omega
            have : bs = [] := List.eq_nil_of_length_eq_zero (by omega)
            rw [this] at h2; cases h2
  · rintro ⟨h1, h2⟩
    cases hf : (subsL m).find? (satL rs) with
    | none =>
      have := List.find?_eq_none.1 hf m hmem
      exact absurd h1 this
    | some s =>
      have hs := List.find?_some hf
      obtain ⟨b, hb, rfl⟩ := List.mem_map.1 (List.mem_of_find?_eq_some hf)
      have := h2 _ (pickL_sub m b) hs
      simp [this]
end Go.Proofs.Ytbfbkpoakmnlpaa
/- Stable models (plain): a rule without a head keeps those that satisfy it; rules whose body is false everywhere change nothing. -/
namespace Go.Proofs.Ytbfbkpoakmnlpaa

theorem stage_congr {rs rs' : List GRule} (n : Nat) (h : ∀ m a, derivB rs m a = derivB rs' m a) : ∀ k, stageF rs n k = stageF rs' n k
  | 0 => rfl
  | k + 1 => by
    have ih := stage_congr n h k
    unfold stageF
    rw [ih]
    simp only [h]
theorem least_congr {rs rs' : List GRule} (n : Nat) (h : ∀ m a, derivB rs m a = derivB rs' m a) : leastL rs n = leastL rs' n := by
  unfold leastL; rw [stage_congr n h]
theorem deriv_append (rs ts : List GRule) (m : List Int) (a : Int) : derivB (rs ++ ts) m a = (derivB rs m a || derivB ts m a) := by unfold derivB; rw [List.any_append]
theorem satL_append (rs ts : List GRule) (m : List Int) : satL (rs ++ ts) m = (satL rs m && satL ts m) := by unfold satL; rw [List.all_append]
/-- Rules that derive nothing and that every subset satisfies. -/
structure Idle (ts : List GRule) (m : List Int) : Prop where
  der : ∀ b a, derivB ts b a = false
  sat : ∀ s : List Int, s.Sublist m → satL ts s = true
theorem Idle.least {ts : List GRule} {m : List Int} (h : Idle ts m) (rs : List GRule) (n : Nat) : leastL (rs ++ ts) n = leastL rs n :=
  least_congr n fun b a => by rw [deriv_append, h.der, Bool.or_false]
theorem Idle.min {ts : List GRule} {m : List Int} (h : Idle ts m) (rs : List GRule) : minL (rs ++ ts) m = minL rs m := by
  rw [Bool.eq_iff_iff, minL_iff, minL_iff]
  constructor
  · rintro ⟨h1, h2⟩
    rw [satL_append, Bool.and_eq_true] at h1
    exact ⟨h1.1, fun s hs hsat => h2 s hs (by rw [satL_append, hsat, h.sat s hs]; rfl)⟩
  · rintro ⟨h1, h2⟩
    refine ⟨by rw [satL_append, h1, h.sat m (List.Sublist.refl m)]; rfl, fun s hs hsat => ?_⟩
    rw [satL_append, Bool.and_eq_true] at hsat
    exact h2 s hs hsat.1
/-- Headless rules that are false in m. -/
theorem idle_of {ts : List GRule} {m : List Int} {n : Int} (h : ∀ c ∈ ts, DefIs c n ∧ c.head = [] ∧ bodyB c m = false) : Idle ts m := by
  refine ⟨fun b a => ?_, fun s hs => ?_⟩
  · unfold derivB derB
    rw [List.any_eq_false]
    intro c hc
    rw [(h c hc).2.1]
    simp
  · unfold satL
    rw [List.all_eq_true]
    intro c hc
    obtain ⟨hd, _, hb⟩ := h c hc
    unfold satB
    have : bodyB c s = false := by
      cases hx : bodyB c s with
      | false => rfl
      | true => rw [body_mono hd (fun x hx => hs.subset hx) hx] at hb; cases hb
    rw [this]; simp
/-- What is left of a headless rule in the reduct, where it is false. -/
theorem red_headless {r : GRule} {n : Int} (hi : RuleIs r n) (hh : r.head = []) (hc : r.choice = false) {m : List Int} (hb : bodyB r m = false) : Idle (redOne m r) m := by
  refine idle_of (n := n) fun c hx => ?_
  unfold redOne at hx
  split at hx
  · cases hx
  · rename_i hd
    have hd : dropB r m = false := by simpa using hd
    rw [hc] at hx
    simp only [Bool.false_eq_true, if_false, List.mem_cons, List.not_mem_nil, or_false] at hx
    subst hx
    refine ⟨⟨ruleE_is (posRule_is hi m (by rw [hh]; rfl)), posRule_body, posRule_choice r m, by rw [hh]; simp⟩, hh, ?_⟩
    have := body_red hi hd
    rw [hb] at this
    exact this
theorem reductL_append (rs ts : List GRule) (m : List Int) : reductL (rs ++ ts) m = reductL rs m ++ reductL ts m := by unfold reductL; rw [List.flatMap_append]
theorem reductL_one (r : GRule) (m : List Int) : reductL [r] m = redOne m r := by simp [reductL]
theorem disB_append (p : GProg) (r : GRule) : disB { p with rules := p.rules ++ [r] } = (disB p || (!r.choice && decide (1 < r.head.length))) := by
  unfold disB; simp
theorem model_append (p : GProg) (r : GRule) (m : List Int) : modelB { p with rules := p.rules ++ [r] } m = (modelB p m && satB r m) := by
  unfold modelB; simp
/-- StableConstraint, set by set. -/
theorem constraint_is {p : GProg} {r : GRule} {n : Int} (hi : RuleIs r n) (hh : r.head = []) (hc : r.choice = false) (m : List Int) :
    isL { p with rules := p.rules ++ [r] } m = (isL p m && !bodyB r m) := by
  unfold isL
  rw [model_append, disB_append, hh]
  have hs : satB r m = !bodyB r m := by unfold satB; rw [hc, hh]; simp
  rw [hs]
  simp only [reductL_append, reductL_one, List.length_nil, Nat.not_lt_zero, decide_false, Bool.and_false, Bool.or_false]
  cases hb : bodyB r m with
  | true => simp
  | false =>
    have hI := red_headless hi hh hc hb
    rw [hI.least, hI.min]
    simp
theorem constraint_all {p : GProg} {r : GRule} {n : Int} (hi : RuleIs r n) (hh : r.head = []) (hc : r.choice = false) : allL { p with rules := p.rules ++ [r] } = (allL p).filter (fun m => !bodyB r m) := by
  unfold allL
  rw [List.filter_filter]
  refine List.filter_congr fun m _ => ?_
  rw [constraint_is hi hh hc, Bool.and_comm]
end Go.Proofs.Ytbfbkpoakmnlpaa
/- ReductClosed (plain): the least model of definite rules is closed, is in every closed set, and its rounds come from the rounds before. -/
namespace Go.Proofs.Ytbfbkpoakmnlpaa
open Go.RowKit

def inB (a b : List Int) : Bool := a.all (fun x => decide (x ∈ b))
/-- A rule with a head that a set satisfies. -/
def okM (m : List Int) (r : GRule) : Bool := decide (r.head.length = 0) || (!bodyC r m || inB r.head m)
def headB (a : Int) (r : GRule) : Bool := decide (r.head.head? = some a)
/-- Some rule with this head has a body that is true in B. -/
def nowB (a : Int) (B : List Int) (r : GRule) : Bool := headB a r && bodyC r B
/-- The atoms of rounds below k. -/
def beforeL (rs : List GRule) (n : Nat) (k : Int) : List Int := ((List.range n).filter fun b => decide (0 < (stageF rs n n).1 b) && decide ((stageF rs n n).1 b < k)).map fun (b : Nat) => (b : Int) + 1
theorem inc_range (n : Nat) (f : Nat → Bool) : incB n (((List.range n).filter f).map fun (i : Nat) => (i : Int) + 1) = true := by
  have hm : ∀ x ∈ ((List.range n).filter f).map (fun (i : Nat) => (i : Int) + 1), 1 ≤ x ∧ x ≤ (n : Int) := fun x hx => by
    obtain ⟨i, hi, rfl⟩ := List.mem_map.1 hx
    have := List.mem_range.1 (List.mem_filter.1 hi).1
    omega
  unfold incB ordB
  rw [Bool.and_eq_true]
  refine ⟨(ordGo_iff n _ none).2 ⟨fun x hx => ?_, ?_, fun _ e => by cases e⟩, List.all_eq_true.2 fun x hx => ?_⟩
  · have := hm x hx; simp [litB]; omega
  · refine List.Pairwise.map _ (R := fun a b : Nat => a < b) (fun a b hab => ?_) (List.pairwise_lt_range.filter f)
    unfold litLt absI
    rw [if_neg (by omega), if_neg (by omega)]
    simp; omega
  · have := hm x hx; simp; omega
theorem least_inc (rs : List GRule) (n : Nat) : incB n (leastL rs n) = true := inc_range n _
theorem least_mem (rs : List GRule) (n : Nat) (x : Int) : x ∈ leastL rs n ↔ x ∈ (stageF rs n n).2 := by
  rw [stage_in]
  unfold leastL
  constructor
  · intro h
    obtain ⟨i, hi, rfl⟩ := List.mem_map.1 h
    obtain ⟨h1, h2⟩ := List.mem_filter.1 hi
    rw [decide_eq_true_eq] at h2
    exact ⟨i, List.mem_range.1 h1, rfl, by omega⟩
  · rintro ⟨j, hj, rfl, hne⟩
    have := stage_bd rs n n j
    exact List.mem_map.2 ⟨j, List.mem_filter.2 ⟨List.mem_range.2 hj, by rw [decide_eq_true_eq]; omega⟩, rfl⟩
theorem stage_last (rs : List GRule) {n j : Nat} (hj : j < n) (h : derivB rs (stageF rs n n).2 ((j : Int) + 1) = true) : (stageF rs n n).1 j ≠ 0 := fun hz => by
  have h1 := (stage_split rs n n j).1.2 ⟨hz, h⟩
  have h2 := cnt_new rs n n ⟨j, hj, h1⟩
  have h3 := cnt_le rs n (n + 1)
  omega
theorem body_congr {r : GRule} {n : Int} (h : DefIs r n) {m m' : List Int} (hs : ∀ x, x ∈ m ↔ x ∈ m') : bodyB r m = bodyB r m' := by
  rw [Bool.eq_iff_iff]
  exact ⟨body_mono h fun x hx => (hs x).1 hx, body_mono h fun x hx => (hs x).2 hx⟩
theorem before_mem (rs : List GRule) {n k : Nat} (hk : k ≤ n) (x : Int) : x ∈ beforeL rs n ((k : Int) + 1) ↔ x ∈ (stageF rs n k).2 := by
  rw [stage_in]
  unfold beforeL
  constructor
  · intro h
    obtain ⟨j, hj, rfl⟩ := List.mem_map.1 h
    obtain ⟨h1, h2⟩ := List.mem_filter.1 hj
    rw [Bool.and_eq_true, decide_eq_true_eq, decide_eq_true_eq] at h2
    refine ⟨j, List.mem_range.1 h1, rfl, ?_⟩
    obtain ⟨i, hi, e, h3, h4⟩ := stage_round rs n j n (by omega)
    have h5 := (stage_split rs n i j).1.2 ⟨h3, h4⟩
    rw [stage_le rs n j (show i + 1 ≤ k by omega) (by omega)]
    omega
  · rintro ⟨j, hj, rfl, hne⟩
    have h1 := stage_le rs n j hk hne
    have h2 := stage_bd rs n k j
    exact List.mem_map.2 ⟨j, List.mem_filter.2 ⟨List.mem_range.2 hj, by rw [Bool.and_eq_true, decide_eq_true_eq, decide_eq_true_eq]; omega⟩, rfl⟩
structure ClosedLaw (rs : List GRule) (n : Nat) (m : List Int) : Prop where
  d : defB n rs = true
  set : incB n (leastL rs n) = true
  least : ∀ r ∈ rs, r.head.length ≠ 0 → bodyC r (leastL rs n) = true → inB r.head (leastL rs n) = true
  small : rs.all (okM m) = true → inB (leastL rs n) m = true
  has : ∀ j : Nat, j < n → decide (0 < (stageF rs n n).1 j) = inB [(j : Int) + 1] (leastL rs n)
  now : ∀ j : Nat, j < n → 0 < (stageF rs n n).1 j → rs.any (nowB ((j : Int) + 1) (beforeL rs n ((stageF rs n n).1 j))) = true
  soon : ∀ j : Nat, j < n → 1 < (stageF rs n n).1 j → rs.any (nowB ((j : Int) + 1) (beforeL rs n ((stageF rs n n).1 j - 1))) = false
theorem closed_law {rs : List GRule} {n : Nat} (hd : defB n rs = true) (hs : ∀ r ∈ rs, SumIs r) (m : List Int) : ClosedLaw rs n m := by
  have hr := defB_all hd
  have hc : ∀ r ∈ rs, ∀ b, bodyC r b = bodyB r b := fun r h b => (hs r h).bodyC b
  have hany : ∀ a B, rs.any (nowB a B) = derivB rs B a := fun a B => by
    unfold derivB derB nowB headB
    rw [Bool.eq_iff_iff, List.any_eq_true, List.any_eq_true]
    exact ⟨fun ⟨r, h1, h2⟩ => ⟨r, h1, by rw [hc r h1] at h2; exact h2⟩, fun ⟨r, h1, h2⟩ => ⟨r, h1, by rw [hc r h1]; exact h2⟩⟩
  have hcong : ∀ B B' a, (∀ x, x ∈ B ↔ x ∈ B') → derivB rs B a = derivB rs B' a := fun B B' a h => by
    rw [Bool.eq_iff_iff]
    exact ⟨deriv_mono hr (fun _ h => h) fun x hx => (h x).1 hx, deriv_mono hr (fun _ h => h) fun x hx => (h x).2 hx⟩
  have hone : ∀ r ∈ rs, r.head.length ≠ 0 → ∃ j : Nat, j < n ∧ r.head = [(j : Int) + 1] := fun r h h0 => by
    have hi := defR_is (hr r h)
    match hh : r.head, hi.one with
    | [], _ => rw [hh] at h0; simp at h0
    | [a], _ =>
      have := inc_mem hi.is.head a (by rw [hh]; simp)
      exact ⟨(a - 1).toNat, by omega, by rw [show (((a - 1).toNat : Nat) : Int) + 1 = a by omega]⟩
    | _ :: _ :: _, h => simp at h
  refine ⟨hd, least_inc rs n, fun r h h0 hb => ?_, fun hall => ?_, fun j hj => ?_, fun j hj h0 => ?_, fun j hj h1 => ?_⟩
  · obtain ⟨j, hj, e⟩ := hone r h h0
    rw [hc r h, body_congr (defR_is (hr r h)) (least_mem rs n)] at hb
    have := stage_last rs hj (by unfold derivB derB; rw [List.any_eq_true]; exact ⟨r, h, by rw [e, hb]; simp⟩)
    rw [e]
    unfold inB
    simp only [List.all_cons, List.all_nil, Bool.and_true, decide_eq_true_eq]
    exact (least_mem rs n _).2 ((stage_in rs n n _).2 ⟨j, hj, rfl, this⟩)
  · have key : ∀ k, ∀ x ∈ (stageF rs n k).2, x ∈ m := by
      intro k
      induction k with
      | zero => intro x hx; simp [stageF] at hx
      | succ k ih =>
        intro x hx
        obtain ⟨j, hj, rfl, hne⟩ := (stage_in rs n (k + 1) x).1 hx
        rcases (stage_split rs n k j).2.1 hne with h | h
        · exact ih _ ((stage_in rs n k _).2 ⟨j, hj, rfl, h⟩)
        · have h2 := ((stage_split rs n k j).1.1 h).2
          unfold derivB derB at h2
          rw [List.any_eq_true] at h2
          obtain ⟨r, hm, hb⟩ := h2
          rw [Bool.and_eq_true, decide_eq_true_eq] at hb
          have hne2 : r.head.length ≠ 0 := fun e => by
            rw [List.eq_nil_of_length_eq_zero e] at hb; simp at hb
          obtain ⟨i, _, e⟩ := hone r hm hne2
          have h3 := List.all_eq_true.1 hall r hm
          have h4 : bodyC r m = true := by rw [hc r hm]; exact body_mono (defR_is (hr r hm)) ih hb.2
          unfold okM at h3
          rw [decide_eq_false hne2, h4] at h3
          have h5 : inB r.head m = true := by simpa using h3
          rw [e] at h5 hb
          have : (i : Int) + 1 = (j : Int) + 1 := by simpa using hb.1
          unfold inB at h5
          rw [← this]
          simpa using h5
    unfold inB
    rw [List.all_eq_true]
    intro x hx
    rw [decide_eq_true_eq]
    exact key n x ((least_mem rs n x).1 hx)
  · unfold inB
    simp only [List.all_cons, List.all_nil, Bool.and_true]
    rw [Bool.eq_iff_iff, decide_eq_true_eq, decide_eq_true_eq, least_mem, stage_in]
    have := stage_bd rs n n j
    constructor
    · intro h; exact ⟨j, hj, rfl, by omega⟩
    · rintro ⟨i, _, e, h⟩
      obtain rfl : i = j := by omega
      omega
  · obtain ⟨k, hk, e, _, h2⟩ := stage_round rs n j n (by omega)
    rw [hany, e, hcong _ _ _ (before_mem rs (show k ≤ n by omega))]
    exact h2
  · obtain ⟨k, hk, e, h2, _⟩ := stage_round rs n j n (by omega)
    obtain ⟨i, rfl⟩ : ∃ i, k = i + 1 := ⟨k - 1, by omega⟩
    rw [hany, e, show ((i + 1 : Nat) : Int) + 1 - 1 = (i : Int) + 1 by omega, hcong _ _ _ (before_mem rs (show i ≤ n by omega))]
    rw [Bool.eq_false_iff]
    intro h3
    by_cases hz : (stageF rs n i).1 j = 0
    · have := (stage_split rs n i j).1.2 ⟨hz, h3⟩
      omega
    · have := stage_le rs n j (Nat.le_succ i) hz
      exact hz (by rw [← this]; exact h2)
/-- The rules of a valid program of few parts, made definite. -/
theorem def_sum {p : GProg} (hf : fewB p = true) (hv : validE p = 0) : ∀ r ∈ defL p.rules, SumIs r := fun r hr => by
  obtain ⟨q, hq, rfl⟩ := List.mem_map.1 hr
  have h1 := (validE_is hv).rules q hq
  have h2 := few_rule hf q hq
  refine sumIs_of (ruleE_is (defOne_is h1)) ?_
  have h3 := List.length_filter_le isPos q.body
  have h4 : (q.head.take 1).length ≤ q.head.length := by rw [List.length_take]; omega
  have h5 : (if q.sum then posW (zp q) else []).length ≤ q.w.length := by
    split
    · have h6 := posW_len (zp q)
      have h7 : (zp q).length ≤ q.w.length := by unfold zp; rw [List.length_zip]; omega
      omega
    · simp
  show (q.head.take 1).length + (q.body.filter isPos).length + (if q.sum then posW (zp q) else []).length ≤ 36
  omega
end Go.Proofs.Ytbfbkpoakmnlpaa
/- Stable models (plain): least models of definite rules; the laws StableChoice and StableDefined, set by set. -/
namespace Go.Proofs.Ytbfbkpoakmnlpaa

/-- Two increasing lists with the same members are equal. -/
theorem inc_ext : ∀ {xs ys : List Int}, xs.Pairwise (· < ·) → ys.Pairwise (· < ·) → (∀ x, x ∈ xs ↔ x ∈ ys) → xs = ys
  | [], [], _, _, _ => rfl
  | [], y :: r, _, _, h => by have := (h y).2 (by simp); cases this
  | x :: r, [], _, _, h => by have := (h x).1 (by simp); cases this
  | x :: r, y :: t, hx, hy, h => by
    rw [List.pairwise_cons] at hx hy
    have h1 := (h x).1 (by simp)
    have h2 := (h y).2 (by simp)
    have e : x = y := by
      rcases List.mem_cons.1 h1 with e | h3
      · exact e
      · rcases List.mem_cons.1 h2 with e | h4
        · exact e.symm
        · have := hx.1 y h4; have := hy.1 x h3; omega
    subst e
    congr 1
    refine inc_ext hx.2 hy.2 fun z => ?_
    constructor
    · intro hz
      rcases List.mem_cons.1 ((h z).1 (by simp [hz])) with rfl | h5
      · have := hx.1 _ hz; omega
      · exact h5
    · intro hz
      rcases List.mem_cons.1 ((h z).2 (by simp [hz])) with rfl | h5
      · have := hy.1 _ hz; omega
      · exact h5
theorem inc_pair {n : Int} {xs : List Int} (h : incB n xs = true) : xs.Pairwise (· < ·) := by
  have hm := inc_mem h
  have h0 : ordGo n none xs = true := by unfold incB ordB at h; simp only [Bool.and_eq_true] at h; exact h.1
  exact (ord_pair n xs none h0 (fun x hx => (by have := (hm x hx).1; omega)) (fun _ e => by cases e)).1
theorem sub_eq {s m : List Int} (hs : s.Sublist m) (hm : m.Pairwise (· < ·)) (h : ∀ x ∈ m, x ∈ s) : s = m :=
  inc_ext (hm.sublist hs) hm fun x => ⟨fun hx => hs.subset hx, h x⟩
theorem sub_of : ∀ {s m : List Int}, s.Pairwise (· < ·) → m.Pairwise (· < ·) → (∀ x ∈ s, x ∈ m) → s.Sublist m
  | [], m, _, _, _ => List.nil_sublist m
  | x :: r, [], _, _, h => by have := h x (by simp); cases this
  | x :: r, y :: t, hs, hm, h => by
    rw [List.pairwise_cons] at hs hm
    rcases List.mem_cons.1 (h x (by simp)) with rfl | h1
    · refine (sub_of hs.2 hm.2 fun z hz => ?_).cons_cons x
      rcases List.mem_cons.1 (h z (by simp [hz])) with rfl | h2
      · have := hs.1 _ hz; omega
      · exact h2
    · refine (sub_of (List.pairwise_cons.2 hs) hm.2 fun z hz => ?_).cons y
      rcases List.mem_cons.1 (h z hz) with rfl | h2
      · rcases List.mem_cons.1 hz with rfl | h3
        · have := hm.1 _ h1; omega
        · have := hs.1 _ h3; have := hm.1 _ h1; omega
      · exact h2
/-- All sets that satisfy definite rules hold the stages. -/
theorem stage_in_model {rs : List GRule} {n : Nat} (hd : ∀ r ∈ rs, DefIs r n) {m : List Int} (hs : satL rs m = true) : ∀ k, ∀ x ∈ (stageF rs n k).2, x ∈ m
  | 0, x, hx => by simp [stageF] at hx
  | k + 1, x, hx => by
    have ih := stage_in_model hd hs k
    obtain ⟨j, hj, rfl, hne⟩ := (stage_in rs n (k + 1) x).1 hx
    rcases (stage_split rs n k j).2.1 hne with h | h
    · exact ih _ ((stage_in rs n k _).2 ⟨j, hj, rfl, h⟩)
    · have h2 := ((stage_split rs n k j).1.1 h).2
      unfold derivB derB at h2
      rw [List.any_eq_true] at h2
      obtain ⟨r, hm, hb⟩ := h2
      rw [Bool.and_eq_true, decide_eq_true_eq] at hb
      have h3 := List.all_eq_true.1 hs r hm
      have h4 : bodyB r m = true := body_mono (hd r hm) ih hb.2
      unfold satB at h3
      rw [(hd r hm).plain, h4] at h3
      have h5 : r.head.any (fun a => decide (a ∈ m)) = true := by simpa using h3
      match hh : r.head, (hd r hm).one with
      | [], _ => rw [hh] at hb; simp at hb
      | [a], _ =>
        rw [hh] at hb h5
        have : a = (j : Int) + 1 := by simpa using hb.1
        subst this
        simpa using h5
      | _ :: _ :: _, h => simp at h
/-- The least model satisfies the rules that have a head. -/
theorem least_closed {rs : List GRule} {n : Nat} {r : GRule} (hr : r ∈ rs) (hi : DefIs r n) (h0 : r.head ≠ []) (hb : bodyB r (leastL rs n) = true) : ∃ a, r.head = [a] ∧ a ∈ leastL rs n := by
  match hh : r.head, hi.one with
  | [], _ => exact absurd hh h0
  | [a], _ =>
    have ha := inc_mem hi.is.head a (by rw [hh]; simp)
    refine ⟨a, rfl, (least_mem rs n a).2 ?_⟩
    obtain ⟨j, hj, rfl⟩ : ∃ j : Nat, j < n ∧ a = (j : Int) + 1 := ⟨(a - 1).toNat, by omega, by omega⟩
    rw [body_congr hi (least_mem rs n)] at hb
    have := stage_last rs hj (by unfold derivB derB; rw [List.any_eq_true]; exact ⟨r, hr, by rw [hh, hb]; simp⟩)
    exact (stage_in rs n n _).2 ⟨j, hj, rfl, this⟩
  | _ :: _ :: _, h => simp at h
theorem least_sub {rs : List GRule} {n : Nat} (hd : ∀ r ∈ rs, DefIs r n) {m : List Int} (hs : satL rs m = true) : ∀ x ∈ leastL rs n, x ∈ m := fun x hx =>
  stage_in_model hd hs n x ((least_mem rs n x).1 hx)
/-- For definite rules a set that satisfies them is minimal just if it is the least model. -/
theorem min_least {rs : List GRule} {n : Nat} (hd : ∀ r ∈ rs, DefIs r n) {m : List Int} (hm : incB n m = true) (hs : satL rs m = true) : minL rs m = decide (leastL rs n = m) := by
  have hp := inc_pair hm
  have hlp := inc_pair (least_inc rs n)
  rw [Bool.eq_iff_iff, minL_iff, decide_eq_true_eq]
  constructor
  · rintro ⟨_, h2⟩
    refine h2 _ (sub_of hlp hp (least_sub hd hs)) ?_
    unfold satL
    rw [List.all_eq_true]
    intro r hr
    unfold satB
    rw [(hd r hr).plain]
    cases hb : bodyB r (leastL rs n) with
    | false => rfl
    | true =>
      by_cases h0 : r.head = []
      · have h3 := List.all_eq_true.1 hs r hr
        have h4 := body_mono (hd r hr) (least_sub hd hs) hb
        unfold satB at h3
        rw [(hd r hr).plain, h4, h0] at h3
        simp at h3
      · obtain ⟨a, e, ha⟩ := least_closed hr (hd r hr) h0 hb
        rw [e]; simp [ha]
  · intro e
    exact ⟨hs, fun s hsub hsat => sub_eq hsub hp fun x hx => least_sub hd hsat x (by rw [e]; exact hx)⟩
/-- The reduct of a program without disjunctions is definite. -/
theorem red_def {p : GProg} (hp : ProgIs p) (hd : disB p = false) (m : List Int) (n : Nat) (hn : p.n = (n : Int)) : ∀ r ∈ reductL p.rules m, DefIs r n := fun c hc => by
  obtain ⟨h1, h2, h3⟩ := reductL_is m p.rules hp.rules c hc
  rw [hn] at h1
  refine ⟨ruleE_is h1, h3, h2, ?_⟩
  unfold reductL at hc
  obtain ⟨r, hr, hx⟩ := List.mem_flatMap.1 hc
  unfold disB at hd
  have h4 := List.any_eq_false.1 hd r hr
  unfold redOne at hx
  split at hx
  · cases hx
  · split at hx
    · obtain ⟨a, _, rfl⟩ := List.mem_map.1 hx
      simp
    · rename_i hch
      simp at hx; subst hx
      have : r.choice = false := by simpa using hch
      rw [this] at h4
      simp at h4
      exact h4
/-- StableDefined's theorem. -/
theorem is_def {p : GProg} (hp : ProgIs p) {m : List Int} (hm : incB p.n m = true) (h0 : 0 ≤ p.n) : isL p m = (modelB p m && minL (reductL p.rules m) m) := by
  unfold isL
  cases hmod : modelB p m with
  | false => rfl
  | true =>
    simp only [Bool.true_and]
    cases hd : disB p with
    | true => simp
    | false =>
      simp only [Bool.false_eq_true, if_false]
      have e : p.n = ((p.n.toNat : Nat) : Int) := by omega
      have hs : satL (reductL p.rules m) m = true := by
        unfold satL
        rw [model_red m p.rules hp.rules]
        exact hmod
      rw [min_least (red_def hp hd m p.n.toNat e) (by rw [← e]; exact hm) hs]
/-- A choice of atoms: a fact for each that is in the set. -/
def choiceR (hd : List Int) : GRule := ⟨true, hd, false, 0, [], []⟩
def neverR (hd : List Int) : GRule := ⟨true, hd, true, 1, [], []⟩
theorem choice_red (hd m : List Int) : redOne m (choiceR hd) = (hd.filter fun a => decide (a ∈ m)).map fun a => ⟨false, [a], false, 0, [], []⟩ := by
  unfold redOne
  rw [if_neg (by simp [dropB, choiceR])]
  rfl
theorem choice_is {p : GProg} (hp : ProgIs p) {hd m : List Int} (hm : incB p.n m = true) (h0 : 0 ≤ p.n) (hsub : ∀ a ∈ m, a ∈ hd) (hq : ProgIs { p with rules := p.rules ++ [choiceR hd] }) :
    isL { p with rules := p.rules ++ [choiceR hd] } m = modelB p m := by
  rw [is_def hq hm h0, model_append]
  have hc : satB (choiceR hd) m = true := rfl
  rw [hc, Bool.and_true]
  cases hmod : modelB p m with
  | false => rfl
  | true =>
    simp only [Bool.true_and]
    rw [reductL_append, reductL_one, choice_red, minL_iff]
    have hs : satL (reductL p.rules m) m = true := by
      unfold satL
      rw [model_red m p.rules hp.rules]
      exact hmod
    refine ⟨?_, fun s hsb hsat => sub_eq hsb (inc_pair hm) fun x hx => ?_⟩
    · rw [satL_append, hs, Bool.true_and]
      unfold satL
      rw [List.all_eq_true]
      intro c hcm
      obtain ⟨a, ha, rfl⟩ := List.mem_map.1 hcm
      have := (List.mem_filter.1 ha).2
      unfold satB
      simpa using Or.inr this
    · rw [satL_append, Bool.and_eq_true] at hsat
      have := List.all_eq_true.1 hsat.2 ⟨false, [x], false, 0, [], []⟩ (List.mem_map.2 ⟨x, List.mem_filter.2 ⟨hsub x hx, by simpa using hx⟩, rfl⟩)
      unfold satB bodyB at this
      simpa using this
theorem never_is (p : GProg) (hd m : List Int) : isL { p with rules := p.rules ++ [neverR hd] } m = isL p m := by
  unfold isL
  rw [model_append, disB_append]
  have hc : satB (neverR hd) m = true := rfl
  have hI : Idle (redOne m (neverR hd)) m := by
    have hb : ∀ c ∈ redOne m (neverR hd), c.choice = false ∧ ∀ b, bodyB c b = false := by
      intro c hx
      unfold redOne at hx
      split at hx
      · cases hx
      · split at hx
        · obtain ⟨a, _, rfl⟩ := List.mem_map.1 hx
          exact ⟨rfl, fun b => rfl⟩
        · rename_i h; exact absurd rfl h
    refine ⟨fun b a => ?_, fun s _ => ?_⟩
    · unfold derivB derB
      rw [List.any_eq_false]
      intro c hx
      rw [(hb c hx).2]
      simp
    · unfold satL
      rw [List.all_eq_true]
      intro c hx
      unfold satB
      rw [(hb c hx).2]; simp
  have e1 : (!(neverR hd).choice && decide (1 < (neverR hd).head.length)) = false := rfl
  rw [hc, e1, Bool.and_true, Bool.or_false, reductL_append, reductL_one, hI.least, hI.min]
theorem never_all (p : GProg) (hd : List Int) : allL { p with rules := p.rules ++ [neverR hd] } = allL p := by
  unfold allL
  exact List.filter_congr fun m _ => never_is p hd m
end Go.Proofs.Ytbfbkpoakmnlpaa
/- Stable models (plain): the order of sets; a sorted list of sets is known by its members. -/
namespace Go.Proofs.Ytbfbkpoakmnlpaa

/-- Set a comes before set b. -/
def lexLt : List Int → List Int → Bool
  | [], [] => false
  | [], _ :: _ => true
  | _ :: _, [] => false
  | a :: r, b :: t => if a = b then lexLt r t else decide (a < b)
def cmpL : List Int → List Int → Int
  | [], [] => 0
  | [], _ :: _ => -1
  | _ :: _, [] => 1
  | a :: r, b :: t => if a = b then cmpL r t else if a < b then -1 else 1
theorem cmpL_lt : ∀ a b : List Int, decide (cmpL a b < 0) = lexLt a b
  | [], [] => rfl
  | [], _ :: _ => rfl
  | _ :: _, [] => rfl
  | a :: r, b :: t => by
    unfold cmpL lexLt
    by_cases h : a = b
    · rw [if_pos h, if_pos h]; exact cmpL_lt r t
    · rw [if_neg h, if_neg h]
      by_cases h2 : a < b
      · rw [if_pos h2]; simp [h2]
      · rw [if_neg h2]; simp [h2]
theorem lexLt_asymm : ∀ a b : List Int, lexLt a b = true → lexLt b a = false
  | [], [], h => by simp [lexLt] at h
  | [], _ :: _, _ => rfl
  | _ :: _, [], h => by simp [lexLt] at h
  | a :: r, b :: t, h => by
    unfold lexLt at h ⊢
    by_cases e : a = b
    · subst e; simp only [if_true] at h ⊢; exact lexLt_asymm r t h
    · rw [if_neg e] at h; rw [if_neg (fun x => e x.symm)]
      simp at h ⊢; omega
theorem lexLt_irrefl (a : List Int) : lexLt a a = false := by
  cases h : lexLt a a with
  | false => rfl
  | true => have := lexLt_asymm a a h; rw [h] at this; cases this
theorem lexLt_trans : ∀ a b c : List Int, lexLt a b = true → lexLt b c = true → lexLt a c = true
  | [], [], _, h, _ => by simp [lexLt] at h
  | _ :: _, [], _, h, _ => by simp [lexLt] at h
  | [], _ :: _, [], _, h => by simp [lexLt] at h
  | [], _ :: _, _ :: _, _, _ => rfl
  | _ :: _, _ :: _, [], _, h => by simp [lexLt] at h
  | a :: r, b :: t, c :: u, h1, h2 => by
    unfold lexLt at *
    by_cases e1 : a = b
    · subst e1
      by_cases e2 : a = c
      · subst e2; simp only [if_true] at *; exact lexLt_trans r t u h1 h2
      · rw [if_neg e2] at h2 ⊢; exact h2
    · rw [if_neg e1] at h1
      by_cases e2 : b = c
      · subst e2; rw [if_neg e1]; exact h1
      · rw [if_neg e2] at h2
        simp at h1 h2
        rw [if_neg (by omega)]
        simp; omega
theorem lexLt_total : ∀ a b : List Int, a ≠ b → lexLt a b = true ∨ lexLt b a = true
  | [], [], h => absurd rfl h
  | [], _ :: _, _ => .inl rfl
  | _ :: _, [], _ => .inr rfl
  | a :: r, b :: t, h => by
    unfold lexLt
    by_cases e : a = b
    · subst e; simp only [if_true]; exact lexLt_total r t (fun e2 => h (by rw [e2]))
    · rw [if_neg e, if_neg (fun x => e x.symm)]
      simp; omega
theorem lexS_mem : ∀ (m s : List Int), s ∈ lexS m ↔ s.Sublist m
  | [], s => by simp [lexS]
  | a :: t, s => by
    have ih := lexS_mem t
    have hh : ∃ u, lexS t = [] :: u := by cases t <;> exact ⟨_, rfl⟩
    obtain ⟨u, hu⟩ := hh
    unfold lexS
    rw [List.mem_cons, List.mem_append, List.mem_map]
    constructor
    · rintro (rfl | ⟨x, hx, rfl⟩ | hx)
      · exact List.nil_sublist _
      · exact ((ih x).1 hx).cons_cons a
      · exact ((ih s).1 (List.mem_of_mem_tail hx)).cons a
    · intro h
      rcases List.sublist_cons_iff.1 h with h1 | ⟨s', rfl, h1⟩
      · have := (ih s).2 h1
        rw [hu] at this
        rcases List.mem_cons.1 this with h2 | h2
        · exact .inl h2
        · exact .inr (.inr (by rw [hu]; exact h2))
      · exact .inr (.inl ⟨s', (ih s').2 h1, rfl⟩)
theorem lexS_sorted : ∀ {m : List Int}, m.Pairwise (· < ·) → (lexS m).Pairwise fun a b => lexLt a b = true
  | [], _ => by simp [lexS]
  | a :: t, h => by
    rw [List.pairwise_cons] at h
    have ih := lexS_sorted h.2
    have hh : ∃ u, lexS t = [] :: u := by cases t <;> exact ⟨_, rfl⟩
    obtain ⟨u, hu⟩ := hh
    have hu2 : ∀ s ∈ u, s ≠ [] ∧ s.Sublist t := fun s hs => by
      rw [hu, List.pairwise_cons] at ih
      refine ⟨fun e => ?_, (lexS_mem t s).1 (by rw [hu]; simp [hs])⟩
      have := ih.1 s hs
      rw [e] at this
      simp [lexLt] at this
    unfold lexS
    rw [List.pairwise_cons, List.pairwise_append]
    refine ⟨fun s hs => ?_, ?_, ?_, fun x hx s hs => ?_⟩
    · rcases List.mem_append.1 hs with h1 | h1
      · obtain ⟨x, _, rfl⟩ := List.mem_map.1 h1; rfl
      · rw [hu] at h1
        cases s with
        | nil => exact absurd rfl (hu2 _ h1).1
        | cons b r => rfl
    · refine List.Pairwise.map _ (fun x y hxy => ?_) ih
      unfold lexLt; rw [if_pos rfl]; exact hxy
    · rw [hu] at ih ⊢
      exact (List.pairwise_cons.1 ih).2
    · obtain ⟨y, _, rfl⟩ := List.mem_map.1 hx
      rw [hu] at hs
      obtain ⟨h1, h2⟩ := hu2 s hs
      cases s with
      | nil => exact absurd rfl h1
      | cons b r =>
        have hb : b ∈ t := h2.subset (by simp)
        have := h.1 b hb
        unfold lexLt
        rw [if_neg (by omega)]
        simp; exact this
/-- Two sorted lists of sets with the same members are equal. -/
theorem lex_ext : ∀ {xs ys : List (List Int)}, (xs.Pairwise fun a b => lexLt a b = true) → (ys.Pairwise fun a b => lexLt a b = true) → (∀ x, x ∈ xs ↔ x ∈ ys) → xs = ys
  | [], [], _, _, _ => rfl
  | [], y :: r, _, _, h => by have := (h y).2 (by simp); cases this
  | x :: r, [], _, _, h => by have := (h x).1 (by simp); cases this
  | x :: r, y :: t, hx, hy, h => by
    rw [List.pairwise_cons] at hx hy
    have h1 := (h x).1 (by simp)
    have h2 := (h y).2 (by simp)
    have e : x = y := by
      rcases List.mem_cons.1 h1 with e | h3
      · exact e
      · rcases List.mem_cons.1 h2 with e | h4
        · exact e.symm
        · have h5 := lexLt_asymm _ _ (hx.1 y h4); have h6 := hy.1 x h3; rw [h5] at h6; cases h6
    subst e
    congr 1
    refine lex_ext hx.2 hy.2 fun z => ?_
    constructor
    · intro hz
      rcases List.mem_cons.1 ((h z).1 (by simp [hz])) with rfl | h5
      · have := hx.1 _ hz; rw [lexLt_irrefl] at this; cases this
      · exact h5
    · intro hz
      rcases List.mem_cons.1 ((h z).2 (by simp [hz])) with rfl | h5
      · have := hy.1 _ hz; rw [lexLt_irrefl] at this; cases this
      · exact h5
theorem atoms_pair (n : Nat) : (atomsL n).Pairwise (· < ·) := by
  unfold atomsL
  refine List.Pairwise.map _ (R := fun a b : Nat => a < b) (fun a b hab => by omega) List.pairwise_lt_range
theorem atoms_mem (n : Nat) (x : Int) : x ∈ atomsL n ↔ 1 ≤ x ∧ x ≤ (n : Int) := by
  unfold atomsL
  rw [List.mem_map]
  constructor
  · rintro ⟨i, hi, rfl⟩
    have := List.mem_range.1 hi; omega
  · rintro ⟨h1, h2⟩
    exact ⟨(x - 1).toNat, List.mem_range.2 (by omega), by omega⟩
/-- The sets of atoms. -/
theorem atoms_sub (n : Nat) (s : List Int) : s.Sublist (atomsL n) ↔ incB n s = true := by
  constructor
  · intro h
    refine incB_sub ?_ h
    have := inc_range n (fun _ => true)
    rw [List.filter_eq_self.2 (by simp)] at this
    exact this
  · intro h
    exact sub_of (inc_pair h) (atoms_pair n) fun x hx => (atoms_mem n x).2 (inc_mem h x hx)
theorem all_mem (p : GProg) (h0 : 0 ≤ p.n) (m : List Int) : m ∈ allL p ↔ incB p.n m = true ∧ isL p m = true := by
  unfold allL
  rw [List.mem_filter, lexS_mem, atoms_sub, show ((p.n.toNat : Nat) : Int) = p.n by omega]
theorem all_sorted (p : GProg) : (allL p).Pairwise fun a b => lexLt a b = true := (lexS_sorted (atoms_pair _)).filter _
end Go.Proofs.Ytbfbkpoakmnlpaa
/- Stable models (plain): what Best picks. -/
namespace Go.Proofs.Ytbfbkpoakmnlpaa

/-- Costs a are better than costs b. -/
def betB : List Int → List Int → Bool
  | a :: r, b :: t => if a = b then betB r t else decide (a < b)
  | _, _ => false
theorem betB_irrefl : ∀ a : List Int, betB a a = false
  | [] => rfl
  | a :: r => by unfold betB; rw [if_pos rfl]; exact betB_irrefl r
theorem betB_asymm : ∀ a b : List Int, betB a b = true → betB b a = false
  | [], [], h => by simp [betB] at h
  | [], _ :: _, h => by simp [betB] at h
  | _ :: _, [], h => by simp [betB] at h
  | a :: r, b :: t, h => by
    unfold betB at h ⊢
    by_cases e : a = b
    · subst e; simp only [if_true] at h ⊢; exact betB_asymm r t h
    · rw [if_neg e] at h; rw [if_neg (fun x => e x.symm)]
      simp at h ⊢; omega
theorem betB_trans : ∀ a b c : List Int, betB a b = true → betB b c = true → a.length = b.length → b.length = c.length → betB a c = true
  | [], _, _, h, _, _, _ => by cases ‹List Int› <;> simp [betB] at h
  | _ :: _, [], _, h, _, _, _ => by simp [betB] at h
  | _ :: _, _ :: _, [], _, h, _, _ => by simp [betB] at h
  | a :: r, b :: t, c :: u, h1, h2, l1, l2 => by
    unfold betB at *
    by_cases e1 : a = b
    · subst e1
      by_cases e2 : a = c
      · subst e2; simp only [if_true] at *; exact betB_trans r t u h1 h2 (by simpa using l1) (by simpa using l2)
      · rw [if_neg e2] at h2 ⊢; exact h2
    · rw [if_neg e1] at h1
      by_cases e2 : b = c
      · subst e2; rw [if_neg e1]; exact h1
      · rw [if_neg e2] at h2
        simp at h1 h2
        rw [if_neg (by omega)]
        simp; omega
theorem betB_eq : ∀ a b : List Int, a.length = b.length → betB a b = false → betB b a = false → a = b
  | [], [], _, _, _ => rfl
  | [], _ :: _, h, _, _ => by simp at h
  | _ :: _, [], h, _, _ => by simp at h
  | a :: r, b :: t, l, h1, h2 => by
    unfold betB at h1 h2
    by_cases e : a = b
    · subst e; simp only [if_true] at h1 h2; rw [betB_eq r t (by simpa using l) h1 h2]
    · rw [if_neg e] at h1; rw [if_neg (fun x => e x.symm)] at h2
      simp at h1 h2; omega
/-- Nothing is better than what nothing before is better than, behind a better one. -/
theorem betB_down {a b c : List Int} (h1 : betB b c = true) (h2 : betB a c = false) (l1 : a.length = b.length) (l2 : b.length = c.length) : betB a b = false := by
  cases h : betB a b with
  | false => rfl
  | true => rw [betB_trans a b c h h1 l1 l2] at h2; cases h2
def costL (p : GProg) (m : List Int) : List Int := p.min.map fun l => sumT l.lits l.w m
def bestStep (c : List Int → List Int) (s : List (List Int) × List Int) (m : List Int) : List (List Int) × List Int :=
  let t := if betB (c m) s.2 then ([], c m) else s
  if betB t.2 (c m) then t else (t.1 ++ [m], t.2)
def bestL (c : List Int → List Int) (all : List (List Int)) : List (List Int) × List Int :=
  match all with
  | [] => ([], [])
  | m :: _ => all.foldl (bestStep c) ([], c m)
structure BestIs (c : List Int → List Int) (pre : List (List Int)) (s : List (List Int) × List Int) (k : Nat) : Prop where
  len : s.2.length = k
  least : ∀ m ∈ pre, betB (c m) s.2 = false
  out : s.1 = pre.filter fun m => decide (c m = s.2)
theorem BestIs.step {c : List Int → List Int} {k : Nat} (hk : ∀ m, (c m).length = k) {pre : List (List Int)} {s : List (List Int) × List Int} (h : BestIs c pre s k) (m : List Int) : BestIs c (pre ++ [m]) (bestStep c s m) k := by
  unfold bestStep
  cases hb : betB (c m) s.2 with
  | true =>
    simp only [if_true]
    rw [betB_irrefl]
    simp only [Bool.false_eq_true, if_false, List.nil_append]
    refine ⟨hk m, fun x hx => ?_, ?_⟩
    · rcases List.mem_append.1 hx with h1 | h1
      · cases hxx : betB (c x) (c m) with
        | false => rfl
        | true =>
          have := betB_trans (c x) (c m) s.2 hxx hb (by rw [hk, hk]) (by rw [hk, h.len])
          rw [h.least x h1] at this; cases this
      · simp at h1; subst h1; exact betB_irrefl _
    · rw [List.filter_append]
      have e : (pre.filter fun x => decide (c x = c m)) = [] := by
        rw [List.filter_eq_nil_iff]
        intro x hx
        have := h.least x hx
        rw [decide_eq_true_eq]
        intro e
        rw [e, hb] at this; cases this
      rw [e]; simp
  | false =>
    simp only [Bool.false_eq_true, if_false]
    cases hb2 : betB s.2 (c m) with
    | true =>
      simp only [if_true]
      refine ⟨h.len, fun x hx => ?_, ?_⟩
      · rcases List.mem_append.1 hx with h1 | h1
        · exact h.least x h1
        · simp at h1; subst h1; exact hb
      · rw [List.filter_append, ← h.out]
        have : c m ≠ s.2 := fun e => by rw [e, betB_irrefl] at hb2; cases hb2
        simp [this]
    | false =>
      simp only [Bool.false_eq_true, if_false]
      have e := betB_eq (c m) s.2 (by rw [hk, h.len]) hb hb2
      refine ⟨h.len, fun x hx => ?_, ?_⟩
      · rcases List.mem_append.1 hx with h1 | h1
        · exact h.least x h1
        · simp at h1; subst h1; exact hb
      · rw [List.filter_append, ← h.out]
        simp [e]
theorem BestIs.fold {c : List Int → List Int} {k : Nat} (hk : ∀ m, (c m).length = k) : ∀ (l pre : List (List Int)) (s : List (List Int) × List Int), BestIs c pre s k → BestIs c (pre ++ l) (l.foldl (bestStep c) s) k
  | [], pre, s, h => by simpa using h
  | m :: t, pre, s, h => by
    have := BestIs.fold hk t (pre ++ [m]) (bestStep c s m) (h.step hk m)
    simpa using this
/-- Best picks those whose costs are the least. -/
theorem best_is {c : List Int → List Int} {k : Nat} (hk : ∀ m, (c m).length = k) (all : List (List Int)) (h0 : all ≠ []) : BestIs c all (bestL c all) k := by
  match all, h0 with
  | m :: t, _ =>
    have h : BestIs c [] ([], c m) k := ⟨hk m, by simp, by simp⟩
    simpa [bestL] using h.fold hk (m :: t)
theorem cost_len (p : GProg) (m : List Int) : (costL p m).length = p.min.length := by simp [costL]
end Go.Proofs.Ytbfbkpoakmnlpaa

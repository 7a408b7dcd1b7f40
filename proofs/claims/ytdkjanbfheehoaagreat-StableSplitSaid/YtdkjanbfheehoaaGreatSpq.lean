/- The law StableSplit, plain half: what the law asks of the union, its stable models and its costs. -/
import Derived.Test.YtdkjanbfheehoaaGreatSpp
import Derived.Test.YtdkjanbfheehoaaGreatGJ
import Derived.Test.YtdkjanbfheehoaaGreatSrm
namespace Go.Proofs.YtdkjanbfheehoaaGreat
open Go.RowKit

theorem sum_take : ∀ (l : List Int) (k : Nat), (∀ x ∈ l, 1 ≤ x) → 0 ≤ (l.take k).sum ∧ (l.take k).sum ≤ l.sum
  | [], k, _ => by simp
  | x :: t, 0, h => by
    have ih := sum_take t 0 fun y hy => h y (List.mem_cons_of_mem _ hy)
    have := h x (List.mem_cons_self ..)
    rw [List.sum_cons]; simp at ih ⊢; omega
  | x :: t, k + 1, h => by
    have ih := sum_take t k fun y hy => h y (List.mem_cons_of_mem _ hy)
    have := h x (List.mem_cons_self ..)
    rw [List.take_succ_cons, List.sum_cons, List.sum_cons]; omega
theorem min_sum {p : GProg} (hp : ProgIs p) (h1 : p.min.length ≤ 1) : (p.min.flatMap (·.w)).sum ≤ 1048576 := by
  match hm : p.min, h1 with
  | [], _ => simp
  | [m], _ =>
    have ho := minGo_mem _ _ hp.min m (by rw [hm]; simp)
    unfold minOk at ho
    simp only [Bool.and_eq_true] at ho
    have hw := ho.1.1.2
    unfold wtB at hw
    rw [Bool.and_eq_true, decide_eq_true_eq] at hw
    have := (wtGo_spec m.w 0 (by omega) (by omega) hw.1).2
    simp only [List.flatMap_cons, List.flatMap_nil, List.append_nil]; omega
/-- The levels of a program of at most one level are short. -/
theorem min_len {p : GProg} (hp : ProgIs p) (h0 : 0 ≤ p.n) (h4 : p.n ≤ 4000) (h1 : p.min.length ≤ 1) : (∀ i : Nat, ((p.min.take i).flatMap (·.lits)).length ≤ 8000 ∧ ((p.min.take i).flatMap (·.w)).length ≤ 8000) ∧ ∀ m ∈ p.min, m.lits.length ≤ 8000 ∧ m.w.length ≤ 8000 ∧ ∀ x ∈ m.lits, litB x p.n = true := by
  have key : ∀ m ∈ p.min, m.lits.length ≤ 8000 ∧ m.w.length ≤ 8000 ∧ ∀ x ∈ m.lits, litB x p.n = true := fun m hm => by
    have ho := minGo_mem _ _ hp.min m hm
    unfold minOk at ho
    simp only [Bool.and_eq_true] at ho
    have hw := ho.1.1.2
    unfold wtB at hw
    rw [Bool.and_eq_true, decide_eq_true_eq] at hw
    have := ordB_len h0 ho.1.1.1
    exact ⟨by omega, by omega, ord_lit ho.1.1.1⟩
  refine ⟨fun i => ?_, key⟩
  match hm : p.min, h1 with
  | [], _ => simp
  | [m], _ =>
    have := key m (by rw [hm]; simp)
    cases i with
    | zero => simp
    | succ i => simp; omega
theorem flat_take {α : Type} {f : α → List Int} {ms : List α} {i : Nat} {m : α} (h : ms[i]? = some m) : (ms.take (i + 1)).flatMap f = (ms.take i).flatMap f ++ f m := by
  rw [List.take_add_one, h, List.flatMap_append]; simp
/-- What the law says of one stable model of each. -/
structure SplOne (p q : GProg) (x y : List Int) : Prop where
  cx : checkE p x = 0
  cy : checkE q y = 0
  cm : checkE (bothP p q) (joinS p x y) = 0
  mem : decide (joinS p x y ∈ allL (bothP p q)) = true
  ux : (costsE p x).length ≤ 1
  uy : (costsE q y).length ≤ 1
  cost : costsE (bothP p q) (joinS p x y) = [(costsE p x ++ costsE q y).sum]
  small : ∀ k, 0 ≤ ((costsE p x ++ costsE q y).take k).sum ∧ ((costsE p x ++ costsE q y).take k).sum ≤ 2097152
  ly : ∀ a ∈ y, litB a q.n = true
  lx : x.length ≤ 4 ∧ y.length ≤ 4
theorem costL_pos {p : GProg} (hp : ProgIs p) (h1 : p.min.length ≤ 1) (m : List Int) : (costL p m).length ≤ 1 ∧ ∀ x ∈ costL p m, 0 ≤ x ∧ x ≤ 1048576 := by
  refine ⟨by unfold costL; rw [List.length_map]; exact h1, fun x hx => ?_⟩
  unfold costL at hx
  obtain ⟨l, hl, rfl⟩ := List.mem_map.1 hx
  have ho := minGo_mem _ _ hp.min l hl
  unfold minOk at ho
  simp only [Bool.and_eq_true] at ho
  have hw := ho.1.1.2
  unfold wtB at hw
  rw [Bool.and_eq_true, decide_eq_true_eq] at hw
  have h2 := wtGo_spec l.w 0 (by omega) (by omega) hw.1
  have key : ∀ (a w : List Int), (∀ z ∈ w, 1 ≤ z) → 0 ≤ sumT a w m ∧ sumT a w m ≤ w.sum := by
    intro a
    induction a with
    | nil =>
      intro w hw
      have := sum_take w w.length hw
      rw [List.take_length] at this
      cases w <;> simp [sumT] at this ⊢ <;> omega
    | cons z a ih =>
      intro w hw
      cases w with
      | nil => simp [sumT]
      | cons y w =>
        have h1 := ih w fun v hv => hw v (List.mem_cons_of_mem _ hv)
        have := hw y (List.mem_cons_self ..)
        rw [sumT_cons, List.sum_cons]
        split <;> omega
  have := key l.lits l.w h2.1
  omega
theorem spl_law {p q : GProg} (hp : ProgIs p) (hq : ProgIs q) (h1 : p.min.length ≤ 1) (h2 : q.min.length ≤ 1) : ∀ k, 0 ≤ ((lvlW p q).take k).sum ∧ ((lvlW p q).take k).sum ≤ 2097152 := fun k => by
  obtain ⟨p1, p2, p3⟩ := min_cases hp h1
  obtain ⟨q1, q2, q3⟩ := min_cases hq h2
  have h := sum_take (lvlW p q) k fun x hx => by
    unfold lvlW at hx
    rcases List.mem_append.1 hx with h | h
    · exact p3 x h
    · exact q3 x h
  have e : (lvlW p q).sum = (p.min.flatMap (·.w)).sum + (q.min.flatMap (·.w)).sum := by unfold lvlW; rw [List.sum_append]
  have := min_sum hp h1
  have := min_sum hq h2
  omega
structure SplTwo (p q : GProg) : Prop where
  bs : SmallP (bothP p q)
  bv : validE (bothP p q) = 0
  len : (allL (bothP p q)).length = (allL p).length * (allL q).length
  lp : (allL p).length ≤ 4096
  lq : (allL q).length ≤ 4096
  each : ∀ x ∈ allL p, ∀ y ∈ allL q, SplOne p q x y
theorem spl_two {p q : GProg} (hv1 : validE p = 0) (hv2 : validE q = 0) (h4 : p.n ≤ 4) (h5 : q.n ≤ 4) (hr1 : p.rules.length ≤ 16) (hr2 : q.rules.length ≤ 16) (h1 : p.min.length ≤ 1) (h2 : q.min.length ≤ 1) (hw : (lvlW p q).sum ≤ 1048576) : SplTwo p q := by
  have hp := validE_is hv1
  have hq := validE_is hv2
  have hp0 := valid_n hv1
  have hq0 := valid_n hv2
  have hB := both_is hp hq hp0 hq0 (by omega) (by omega) h1 h2 hw
  have hBv := ex_validE hB
  have sp : SmallP p := ⟨hp, hp0, by omega, by omega⟩
  have sq : SmallP q := ⟨hq, hq0, by omega, by omega⟩
  have hn : (bothP p q).n = p.n + q.n := rfl
  refine ⟨⟨hB, by rw [hn]; omega, by rw [hn]; omega, by show (p.rules ++ q.rules.map _).length ≤ 1000; rw [List.length_append, List.length_map]; omega⟩, hBv, both_len hB hp hq hp0 hq0, sp.all_le, sq.all_le, fun x hx y hy => ?_⟩
  obtain ⟨ix, sx⟩ := (all_mem p hp0 x).1 hx
  obtain ⟨iy, sy⟩ := (all_mem q hq0 y).1 hy
  have cx := check_of hv1 ix
  have cy := check_of hv2 iy
  have ij : incB (bothP p q).n (joinS p x y) = true := by rw [hn]; exact join_inc hp0 ix iy hq0
  have cm := check_of hBv ij
  have ex : costsE p x = costL p x := by unfold costsE; rw [if_pos cx]
  have ey : costsE q y = costL q y := by unfold costsE; rw [if_pos cy]
  have em : costsE (bothP p q) (joinS p x y) = costL (bothP p q) (joinS p x y) := by unfold costsE; rw [if_pos cm]
  obtain ⟨l1, b1⟩ := costL_pos hp h1 x
  obtain ⟨l2, b2⟩ := costL_pos hq h2 y
  refine ⟨cx, cy, cm, decide_eq_true ?_, by rw [ex]; exact l1, by rw [ey]; exact l2, ?_, ?_, fun a ha => litB_iff.2 (by have := inc_mem iy a ha; omega), by have := inc_lenN hp0 ix; omega, by have := inc_lenN hq0 iy; omega⟩
  · refine (all_mem (bothP p q) (by rw [hn]; omega) _).2 ⟨ij, ?_⟩
    rw [isL_both hB hp hq hp0 hq0 ix iy, sx, sy]; rfl
  · rw [em, ex, ey, both_cost hp hq hp0 h1 h2 ix iy, List.sum_append]
  · rw [ex, ey]
    intro k
    have bnd : ∀ (l : List Int), l.length ≤ 2 → (∀ z ∈ l, 0 ≤ z ∧ z ≤ 1048576) → ∀ k, 0 ≤ (l.take k).sum ∧ (l.take k).sum ≤ 2097152 := by
      intro l hl hz k
      match l, hl with
      | [], _ => simp
      | [a], _ =>
        have := hz a (by simp)
        cases k <;> simp <;> omega
      | [a, b], _ =>
        have := hz a (by simp)
        have := hz b (by simp)
        match k with
        | 0 => simp
        | 1 => simp; omega
        | k + 2 => simp; omega
    exact bnd _ (by rw [List.length_append]; omega) (fun z hz => by
      rcases List.mem_append.1 hz with h | h
      · exact b1 z h
      · exact b2 z h) k
end Go.Proofs.YtdkjanbfheehoaaGreat

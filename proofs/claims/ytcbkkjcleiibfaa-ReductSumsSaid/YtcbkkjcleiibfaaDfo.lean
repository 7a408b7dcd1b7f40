/- What definite rules give the mirror: DefOk, distinct body atoms, short rows of uses (plain). -/
import Derived.Test.YtcbkkjcleiibfaaRf5
import Derived.Test.YtcbkkjcleiibfaaUse
namespace Go.Proofs.Ytcbkkjcleiibfaa

theorem litLt_pos {a b : Int} (ha : 0 < a) (hb : 0 < b) (h : litLt a b = true) : a < b := by
  unfold litLt absI at h
  rw [if_neg (by omega), if_neg (by omega)] at h
  simp only [Bool.or_eq_true, Bool.and_eq_true, decide_eq_true_eq] at h
  omega
theorem ord_pair (n : Int) : ∀ (xs : List Int) (p : Option Int), ordGo n p xs = true → (∀ x ∈ xs, 0 < x) → (∀ y, p = some y → 0 < y) → xs.Pairwise (· < ·) ∧ ∀ y, p = some y → ∀ x ∈ xs, y < x
  | [], _, _, _, _ => ⟨List.Pairwise.nil, fun _ _ _ h => by simp at h⟩
  | x :: r, p, h, hp, hy => by
    rw [ordGo_cons] at h
    simp only [Bool.and_eq_true] at h
    have hx := hp x (by simp)
    obtain ⟨h1, h2⟩ := ord_pair n r (some x) h.2 (fun z hz => hp z (by simp [hz])) (fun y e => by cases e; exact hx)
    refine ⟨List.pairwise_cons.2 ⟨h2 x rfl, h1⟩, fun y e z hz => ?_⟩
    have hyx : y < x := by
      have h3 := h.1.2
      rw [e] at h3
      exact litLt_pos (hy y e) hx h3
    rcases List.mem_cons.1 hz with rfl | hz
    · exact hyx
    · exact Int.lt_trans hyx (h2 x rfl z hz)
theorem bp_fst {r : GRule} (h : r.sum = true → r.w.length = r.body.length) : (bp r).map Prod.fst = r.body := by
  unfold bp
  by_cases hs : r.sum = true
  · rw [if_pos hs]; exact List.map_fst_zip (by rw [h hs]; exact Nat.le_refl _)
  · rw [if_neg hs]; simp [List.map_map, Function.comp_def]
theorem bp_len {r : GRule} (h : r.sum = true → r.w.length = r.body.length) : (bp r).length = r.body.length := by
  rw [← bp_fst h, List.length_map]
theorem usesI_len (i : Nat) (a : Int) : ∀ (l : List (Int × Int)), (l.map Prod.fst).Pairwise (· < ·) → (usesI i a l).length ≤ 1
  | [], _ => by simp [usesI]
  | p :: r, h => by
    rw [List.map_cons, List.pairwise_cons] at h
    have ih := usesI_len i a r h.2
    by_cases e : p.1 = a
    · have h0 : r.filter (fun q => decide (q.1 = a)) = [] := by
        rw [List.filter_eq_nil_iff]
        intro q hq
        have := h.1 q.1 (List.mem_map.2 ⟨q, hq, rfl⟩)
        simp; omega
      simp [usesI, e, h0]
    · have e2 : usesI i a (p :: r) = usesI i a r := by simp [usesI, e]
      rw [e2]; exact ih
/-- A definite rule. -/
structure DefIs (r : GRule) (n : Int) : Prop where
  is : RuleIs r n
  pos : ∀ x ∈ r.body, 0 < x
  plain : r.choice = false
  one : r.head.length ≤ 1
theorem defR_is {r : GRule} {n : Int} (h : defR n r = true) : DefIs r n := by
  have hi := defR_rule h
  simp only [defR, Bool.and_eq_true, decide_eq_true_eq, List.all_eq_true, Bool.not_eq_true'] at h
  refine ⟨hi, fun x hx => ?_, h.1.1.2, h.1.2⟩
  have h1 := h.2 x hx
  have h2 := ordGo_mem n _ _ hi.body x hx
  simp [litB] at h2
  omega
theorem DefIs.pair {r : GRule} {n : Int} (h : DefIs r n) : r.body.Pairwise (· < ·) := (ord_pair n r.body none h.is.body h.pos (fun _ e => by cases e)).1
theorem DefIs.row {r : GRule} {n : Int} (h : DefIs r n) (i k : Nat) (a : Int) : (usesI i a ((bp r).take k)).length ≤ 1 :=
  usesI_len i a _ (by rw [List.map_take, bp_fst h.is.wlen]; exact h.pair.sublist (List.take_sublist _ _))
theorem usesGo_len {n : Int} (a : Int) : ∀ (rs : List GRule) (i : Nat), (∀ r ∈ rs, defR n r = true) → (usesGo a i rs).length ≤ rs.length
  | [], _, _ => by simp [usesGo]
  | r :: rs, i, h => by
    have h1 := (defR_is (h r (by simp))).row i (bp r).length a
    rw [List.take_length] at h1
    have h2 := usesGo_len a rs (i + 1) (fun x hx => h x (by simp [hx]))
    rw [usesGo, List.length_append, List.length_cons]; omega
theorem rowsU_len {n : Int} {rs : List GRule} (h : ∀ r ∈ rs, defR n r = true) (i k a : Nat) : (rowsU rs i k a).length ≤ rs.length + 1 := by
  unfold rowsU
  have h1 := usesGo_len (n := n) (a : Int) (rs.take i) 0 (fun r hr => h r (List.mem_of_mem_take hr))
  have h3 := List.length_take_le' i rs
  rw [List.length_append]
  cases hr : rs[i]? with
  | none => simp; omega
  | some r =>
    have h2 := (defR_is (h r (List.mem_of_getElem? hr))).row i k (a : Int)
    simp only; omega
theorem defB_all {n : Int} {rs : List GRule} (h : defB n rs = true) : ∀ r ∈ rs, defR n r = true := by
  unfold defB at h; simp only [Bool.and_eq_true, List.all_eq_true] at h; exact h.2
theorem defB_ok {N : Nat} {rs : List GRule} (h : defB N rs = true) : DefOk rs N :=
  ⟨fun r hr a ha => inc_mem (defR_is (defB_all h r hr)).is.head a ha, fun r hr x hx => (defR_is (defB_all h r hr)).pos x hx⟩
end Go.Proofs.Ytcbkkjcleiibfaa

/- The reference's edges, tightness and heads, plain. -/
import Derived.Test.YtbfbkpoakmnlpaaWrs
namespace Go.Proofs.Ytbfbkpoakmnlpaa
open Go.RowKit

def refRow (p : GProg) (n a : Nat) : List (Int × Int) := ((List.range n).filter (edN p a)).map fun (b : Nat) => ((a : Int) + 1, (b : Int) + 1)
theorem refRow_next (p : GProg) (a b : Nat) : refRow p (b + 1) a = if edN p a b then refRow p b a ++ [((a : Int) + 1, (b : Int) + 1)] else refRow p b a := by
  unfold refRow
  rw [List.range_succ, List.filter_append, List.map_append]
  cases h : edN p a b <;> simp [h]
theorem refRow_len (p : GProg) (n a : Nat) : (refRow p n a).length ≤ n := by
  unfold refRow
  rw [List.length_map]
  have := List.length_filter_le (edN p a) (List.range n)
  rwa [List.length_range] at this
theorem refEL_len (p : GProg) (n : Nat) : ∀ k, ((List.range k).flatMap (refRow p n)).length ≤ k * n
  | 0 => by simp
  | k + 1 => by
    rw [List.range_succ, List.flatMap_append, List.length_append]
    have h1 := refEL_len p n k
    have h2 := refRow_len p n k
    have h3 : ([k].flatMap (refRow p n)).length = (refRow p n k).length := by simp
    rw [Nat.add_mul, h3]
    omega
def refEL (p : GProg) : List (Int × Int) := (List.range p.n.toNat).flatMap (refRow p p.n.toNat)
theorem refEL_eq {p : GProg} (hi : ProgIs p) : refEL p = edgeL p := by
  have h0 : 0 ≤ p.n := (namedB_n hi.named).1
  have hg := of_ok hi h0 (namedB_n hi.named).2
  have hl := of_len p
  unfold refEL edgeL
  rw [List.range_succ_eq_map, List.flatMap_cons]
  have hz : rowPr p 0 = [] := by
    unfold rowPr
    have : rowZ (ofL p) ((0 : Nat) : Int) = [] := by
      refine List.eq_nil_iff_forall_not_mem.2 fun b hb => ?_
      obtain ⟨r, hr, ha, -⟩ := (of_edge h0 (Int.le_refl 0) h0).1 hb
      have := (inc_mem (hi.rules r hr).head _ ha).1
      omega
    rw [this]; rfl
  rw [hz, List.nil_append, List.flatMap_map]
  rw [List.flatMap_def, List.flatMap_def]
  congr 1
  apply List.map_congr_left
  intro a ha
  have ha := List.mem_range.1 ha
  unfold refRow rowPr
  have hrow : rowZ (ofL p) (((a + 1 : Nat)) : Int) = ((List.range p.n.toNat).filter (edN p a)).map fun (b : Nat) => (b : Int) + 1 := by
    refine inc_ext ?_ ?_ fun x => ?_
    · rw [of_row h0 (by omega) (by omega)]
      exact (comp_spec _).2
    · rw [List.pairwise_map]
      exact (List.Pairwise.filter _ (List.pairwise_lt_range)).imp (fun {a b} q => by omega)
    · rw [List.mem_map]
      constructor
      · intro hx
        have hr := hg.ent _ _ hx
        refine ⟨(x - 1).toNat, List.mem_filter.2 ⟨List.mem_range.2 (by omega), ?_⟩, by omega⟩
        unfold edN
        rw [show (((x - 1).toNat : Nat) : Int) + 1 = x by omega]
        exact (edB_iff (by omega)).2 ((of_edge h0 (by omega) (by omega)).1 hx)
      · rintro ⟨b, hb, rfl⟩
        obtain ⟨hb1, hb2⟩ := List.mem_filter.1 hb
        exact (of_edge h0 (by omega) (by omega)).2 ((edB_iff (by omega)).1 hb2)
  show List.map (fun (b : Nat) => ((a : Int) + 1, (b : Int) + 1)) _ = List.map (fun b => (((a + 1 : Nat) : Int), b)) (rowZ (ofL p) ((a + 1 : Nat) : Int))
  rw [hrow, List.map_map]
  apply List.map_congr_left
  intro b _
  simp
theorem tight_ref {p : GProg} (hi : ProgIs p) : tightB p = (List.range p.n.toNat).all fun a => !ptB p a a := by
  have h0 : 0 ≤ p.n := (namedB_n hi.named).1
  rw [Bool.eq_iff_iff, tight_iff hi, List.all_eq_true]
  constructor
  · intro h a ha
    have ha := List.mem_range.1 ha
    cases hp : ptB p a a with
    | false => rfl
    | true => exact absurd ((pt_plus hi ha ha).1 hp) (h _ (by omega) (by omega))
  · intro h a a1 a2 hp
    have := h (a - 1).toNat (List.mem_range.2 (by omega))
    have h2 := (pt_plus hi (x := (a - 1).toNat) (y := (a - 1).toNat) (by omega) (by omega)).2 (by
      rw [show (((a - 1).toNat : Nat) : Int) + 1 = a by omega]; exact hp)
    rw [h2] at this; cases this
theorem tg_iff {p : GProg} (hi : ProgIs p) {x y : Nat} (hx : x < p.n.toNat) (hy : y < p.n.toNat) : tgB p x y = true ↔ Rch (ofL p) ((x : Int) + 1) ((y : Int) + 1) ∧ Rch (ofL p) ((y : Int) + 1) ((x : Int) + 1) := by
  unfold tgB
  rw [Bool.or_eq_true, Bool.and_eq_true, decide_eq_true_eq, pt_plus hi hx hy, pt_plus hi hy hx]
  constructor
  · rintro (q | ⟨⟨c, q1, q2⟩, d, q3, q4⟩)
    · subst q; exact ⟨.refl _, .refl _⟩
    · exact ⟨.step q1 q2, .step q3 q4⟩
  · intro q
    by_cases e : x = y
    · exact .inl e
    · exact .inr ⟨(rch_plus (by omega)).1 q.1, (rch_plus (by omega)).1 q.2⟩
def refHead (p : GProg) (r : GRule) : Bool := (List.range r.head.length).all fun i => (List.range i).all fun j => r.choice || !tgB p ((r.head.getD i 0) - 1).toNat ((r.head.getD j 0) - 1).toNat
theorem free_ref {p : GProg} (hi : ProgIs p) : freeB p = p.rules.all (refHead p) := by
  have h0 : 0 ≤ p.n := (namedB_n hi.named).1
  rw [free_want hi]
  have hr : ∀ r ∈ p.rules, wantR (rchL p) r = refHead p r := fun r hr => by
    have hrr := inc_mem (hi.rules r hr).head
    have hpw := inc_pair (hi.rules r hr).head
    rw [List.pairwise_iff_getElem] at hpw
    rw [Bool.eq_iff_iff]
    unfold wantR refHead
    simp only [List.all_eq_true, List.mem_range]
    have key : ∀ i j, i < r.head.length → j < i → (pairB (rchL p) r.choice (r.head.getD i 0) (r.head.getD j 0) = true ↔ (r.choice || !tgB p ((r.head.getD i 0) - 1).toNat ((r.head.getD j 0) - 1).toNat) = true) := by
      intro i j hi' hj
      have hri := hrr _ (List.getElem_mem hi')
      have hrj := hrr _ (List.getElem_mem (show j < r.head.length by omega))
      have hlt := hpw j i (by omega) hi' hj
      rw [List.getD_eq_getElem?_getD, List.getD_eq_getElem?_getD, List.getElem?_eq_getElem hi', List.getElem?_eq_getElem (show j < r.head.length by omega)]
      simp only [Option.getD_some]
      have e1 : (((r.head[i] - 1).toNat : Nat) : Int) + 1 = r.head[i] := by omega
      have e2 : (((r.head[j] - 1).toNat : Nat) : Int) + 1 = r.head[j] := by omega
      have ht := tg_iff hi (x := (r.head[i] - 1).toNat) (y := (r.head[j] - 1).toNat) (by omega) (by omega)
      rw [e1, e2, rch_plus (by omega), rch_plus (by omega), ← bit_ok hi (by omega) (by omega), ← bit_ok hi (by omega) (by omega)] at ht
      unfold pairB
      cases r.choice with
      | true => simp
      | false =>
        rw [Bool.false_or, Bool.false_or]
        cases b1 : bitN (rchL p) r.head[i] r.head[j] <;> cases b2 : bitN (rchL p) r.head[j] r.head[i] <;> cases b3 : tgB p (r.head[i] - 1).toNat (r.head[j] - 1).toNat <;> simp_all
    constructor
    · intro h i hi' j hj
      exact (key i j hi' hj).1 (h i hi' j hj)
    · intro h i hi' j hj
      exact (key i j hi' hj).2 (h i hi' j hj)
  rw [Bool.eq_iff_iff, List.all_eq_true, List.all_eq_true]
  exact ⟨fun h r hm => by rw [← hr r hm]; exact h r hm, fun h r hm => by rw [hr r hm]; exact h r hm⟩
end Go.Proofs.Ytbfbkpoakmnlpaa

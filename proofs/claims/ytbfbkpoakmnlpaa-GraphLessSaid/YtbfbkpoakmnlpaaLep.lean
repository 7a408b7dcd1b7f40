/- GraphLess, plain: a rule less, and rules of heads and positive literals alone. -/
import Derived.Test.YtbfbkpoakmnlpaaGpp
namespace Go.Proofs.Ytbfbkpoakmnlpaa
open Go.RowKit

def lessP (p : GProg) (k : Nat) : GProg := { p with rules := p.rules.take k ++ p.rules.drop (k + 1) }
def plR (r : GRule) : GRule := ⟨false, r.head, false, 0, psL r.body, []⟩
def plP (p : GProg) : GProg := { p with rules := p.rules.map plR }
theorem lessP_mem {p : GProg} {k : Nat} {r : GRule} (h : r ∈ (lessP p k).rules) : r ∈ p.rules := by
  rcases List.mem_append.1 h with q | q
  · exact List.mem_of_mem_take q
  · exact List.mem_of_mem_drop q
theorem lessP_is {p : GProg} (hi : ProgIs p) (k : Nat) : ProgIs (lessP p k) := by
  refine ⟨hi.named, ?_, fun r hr => hi.rules r (lessP_mem hr), hi.mins, hi.min⟩
  have := hi.few
  show (p.rules.take k ++ p.rules.drop (k + 1)).length ≤ 40000
  rw [List.length_append, List.length_take, List.length_drop]
  omega
theorem plP_is {p : GProg} (hi : ProgIs p) : ProgIs (plP p) := by
  refine ⟨hi.named, by unfold plP; simpa using hi.few, fun r hr => ?_, hi.mins, hi.min⟩
  obtain ⟨s, hs, rfl⟩ := List.mem_map.1 hr
  have h := hi.rules s hs
  exact { n0 := h.n0, n1 := h.n1, head := h.head, choice := fun e => (by cases e), body := ordB_filter h.body _, plain := fun _ => ⟨rfl, rfl⟩, wlen := fun e => (by cases e), wt := fun e => (by cases e), b0 := fun e => (by cases e), b1 := fun e => (by cases e) }
theorem pl_raw (rs : List GRule) (a : Nat) : rawL (rs.map plR) a = rawL rs a := by
  unfold rawL
  rw [List.flatMap_map]
  have : ∀ b : List Int, psL (psL b) = psL b := fun b => by unfold psL; rw [List.filter_filter]; simp
  congr 1
  funext r
  show r.head.flatMap (fun h => if h = (a : Int) then psL (psL r.body) else []) = _
  rw [this]
theorem pl_edges (p : GProg) : edgeL (plP p) = edgeL p := by
  have e : ofL (plP p) = ofL p := by
    unfold ofL plP
    simp only [pl_raw]
  unfold edgeL
  show (List.range (p.n.toNat + 1)).flatMap (rowPr (plP p)) = _
  congr 1
  funext a
  unfold rowPr
  rw [e]
section
variable {p : GProg} (hi : ProgIs p) (k : Nat)
include hi
theorem less_row {a b : Int} (h : b ∈ rowZ (ofL (lessP p k)) a) : b ∈ rowZ (ofL p) a := by
  have h0 : 0 ≤ p.n := (namedB_n hi.named).1
  by_cases a0 : 0 ≤ a
  · by_cases a1 : a ≤ p.n
    · obtain ⟨r, hr, q⟩ := (of_edge (p := lessP p k) h0 a0 a1).1 h
      exact (of_edge h0 a0 a1).2 ⟨r, lessP_mem hr, q⟩
    · rw [of_far (p := lessP p k) (show (lessP p k).n < a by show p.n < a; omega) h0] at h; cases h
  · have e : rowZ (ofL (lessP p k)) a = rowZ (ofL (lessP p k)) 0 := by
      unfold rowZ; rw [show a.toNat = (0 : Int).toNat by omega]
    have e2 : rowZ (ofL p) a = rowZ (ofL p) 0 := by
      unfold rowZ; rw [show a.toNat = (0 : Int).toNat by omega]
    rw [e] at h
    rw [e2]
    obtain ⟨r, hr, q⟩ := (of_edge (p := lessP p k) h0 (Int.le_refl 0) h0).1 h
    exact (of_edge h0 (Int.le_refl 0) h0).2 ⟨r, lessP_mem hr, q⟩
theorem less_rch {a b : Int} (h : Rch (ofL (lessP p k)) a b) : Rch (ofL p) a b := by
  induction h with
  | refl a => exact .refl a
  | step h _ ih => exact .step (less_row hi k h) ih
theorem less_plus {a b : Int} (h : Plus (ofL (lessP p k)) a b) : Plus (ofL p) a b := by
  obtain ⟨c, h1, h2⟩ := h
  exact ⟨c, less_row hi k h1, less_rch hi k h2⟩
theorem less_tight (h : tightB p = true) : tightB (lessP p k) = true :=
  (tight_iff (lessP_is hi k)).2 fun a a1 a2 q => (tight_iff hi).1 h a a1 a2 (less_plus hi k q)
theorem less_bit {a b : Int} (ha : 0 ≤ a) (hb : 0 ≤ b) (h : bitN (rchL (lessP p k)) a b = true) : bitN (rchL p) a b = true :=
  (bit_ok hi ha hb).2 (less_plus hi k ((bit_ok (lessP_is hi k) ha hb).1 h))
theorem less_free (h : freeB p = true) : freeB (lessP p k) = true := by
  rw [free_want (lessP_is hi k), List.all_eq_true]
  rw [free_want hi, List.all_eq_true] at h
  intro r hr
  have h1 := h r (lessP_mem hr)
  have hrr := inc_mem (hi.rules r (lessP_mem hr)).head
  unfold wantR at h1 ⊢
  simp only [List.all_eq_true, List.mem_range] at h1 ⊢
  intro i hi' j hj
  have h2 := h1 i hi' j hj
  have hri := hrr _ (List.getElem_mem hi')
  have hrj := hrr _ (List.getElem_mem (show j < r.head.length by omega))
  rw [List.getD_eq_getElem?_getD, List.getD_eq_getElem?_getD, List.getElem?_eq_getElem hi', List.getElem?_eq_getElem (show j < r.head.length by omega)] at h2 ⊢
  simp only [Option.getD_some] at h2 ⊢
  unfold pairB at h2 ⊢
  have k1 := less_bit hi k (a := r.head[i]) (b := r.head[j]) (by omega) (by omega)
  have k2 := less_bit hi k (a := r.head[j]) (b := r.head[i]) (by omega) (by omega)
  cases b1 : bitN (rchL (lessP p k)) r.head[i] r.head[j] with
  | false => simp
  | true =>
    cases b2 : bitN (rchL (lessP p k)) r.head[j] r.head[i] with
    | false => simp
    | true => rw [k1 b1, k2 b2] at h2; simpa using h2
theorem nums_same {a b : Int} (a1 : 1 ≤ a) (a2 : a ≤ p.n) (b1 : 1 ≤ b) (b2 : b ≤ p.n) : nthZ (numsL p) (a - 1) = nthZ (numsL p) (b - 1) ↔ Rch (ofL p) a b ∧ Rch (ofL p) b a := by
  have h0 : 0 ≤ p.n := (namedB_n hi.named).1
  have hl := of_len p
  have h1 : 1 ≤ (ofL p).length := by omega
  rw [nums_at a1, nums_at b1, show p.n.toNat = (ofL p).length - 1 by omega]
  exact at_same (comps_part hi).ok h1 a1 (by omega) b1 (by omega)
theorem less_nums {a b : Int} (a1 : 1 ≤ a) (a2 : a ≤ p.n) (b1 : 1 ≤ b) (b2 : b ≤ p.n) (h : nthZ (numsL (lessP p k)) (a - 1) = nthZ (numsL (lessP p k)) (b - 1)) : nthZ (numsL p) (a - 1) = nthZ (numsL p) (b - 1) := by
  have := (nums_same (lessP_is hi k) a1 a2 b1 b2).1 h
  exact (nums_same hi a1 a2 b1 b2).2 ⟨less_rch hi k this.1, less_rch hi k this.2⟩
end
end Go.Proofs.Ytbfbkpoakmnlpaa

/- ReductClosed (plain): the least model of definite rules is closed, is in every closed set, and its rounds come from the rounds before. -/
import Derived.Test.YtcbkkjcleiibfaaMon
import Derived.Test.YtcbkkjcleiibfaaSms
namespace Go.Proofs.Ytcbkkjcleiibfaa
open Go.RowKit

def inB (a b : List Int) : Bool := a.all (fun x => decide (x ∈ b))
/-- A rule with a head that a set satisfies. -/
def okM (m : List Int) (r : GRule) : Bool := decide (r.head.length = 0) || (!bodyC r m || inB r.head m)
def headB (a : Int) (r : GRule) : Bool := decide (r.head.head? = some a)
/-- Some rule with this head has a body that is true in B. -/
def nowB (a : Int) (B : List Int) (r : GRule) : Bool := headB a r && bodyC r B
/-- The atoms of rounds below k. -/
def beforeL (rs : List GRule) (n : Nat) (k : Int) : List Int := ((List.range n).filter fun b => decide (0 < (stageF rs n n).1 b) && decide ((stageF rs n n).1 b < k)).map fun (b : Nat) => (b : Int) + 1
theorem inc_range (n : Nat) (f : Nat → Bool) : incB n (((List.range n).filter f).map fun (i : Nat) => (i : Int) + 1) = true := by
  have hm : ∀ x ∈ ((List.range n).filter f).map (fun (i : Nat) => (i : Int) + 1), 1 ≤ x ∧ x ≤ (n : Int) := fun x hx => by
    obtain ⟨i, hi, rfl⟩ := List.mem_map.1 hx
    have := List.mem_range.1 (List.mem_filter.1 hi).1
    omega
  unfold incB ordB
  rw [Bool.and_eq_true]
  refine ⟨(ordGo_iff n _ none).2 ⟨fun x hx => ?_, ?_, fun _ e => by cases e⟩, List.all_eq_true.2 fun x hx => ?_⟩
  · have := hm x hx; simp [litB]; omega
  · refine List.Pairwise.map _ (R := fun a b : Nat => a < b) (fun a b hab => ?_) (List.pairwise_lt_range.filter f)
    unfold litLt absI
    rw [if_neg (by omega), if_neg (by omega)]
    simp; omega
  · have := hm x hx; simp; omega
theorem least_inc (rs : List GRule) (n : Nat) : incB n (leastL rs n) = true := inc_range n _
theorem least_mem (rs : List GRule) (n : Nat) (x : Int) : x ∈ leastL rs n ↔ x ∈ (stageF rs n n).2 := by
  rw [stage_in]
  unfold leastL
  constructor
  · intro h
    obtain ⟨i, hi, rfl⟩ := List.mem_map.1 h
    obtain ⟨h1, h2⟩ := List.mem_filter.1 hi
    rw [decide_eq_true_eq] at h2
    exact ⟨i, List.mem_range.1 h1, rfl, by omega⟩
  · rintro ⟨j, hj, rfl, hne⟩
    have := stage_bd rs n n j
    exact List.mem_map.2 ⟨j, List.mem_filter.2 ⟨List.mem_range.2 hj, by rw [decide_eq_true_eq]; omega⟩, rfl⟩
theorem stage_last (rs : List GRule) {n j : Nat} (hj : j < n) (h : derivB rs (stageF rs n n).2 ((j : Int) + 1) = true) : (stageF rs n n).1 j ≠ 0 := fun hz => by
  have h1 := (stage_split rs n n j).1.2 ⟨hz, h⟩
  have h2 := cnt_new rs n n ⟨j, hj, h1⟩
  have h3 := cnt_le rs n (n + 1)
  omega
theorem body_congr {r : GRule} {n : Int} (h : DefIs r n) {m m' : List Int} (hs : ∀ x, x ∈ m ↔ x ∈ m') : bodyB r m = bodyB r m' := by
  rw [Bool.eq_iff_iff]
  exact ⟨body_mono h fun x hx => (hs x).1 hx, body_mono h fun x hx => (hs x).2 hx⟩
theorem before_mem (rs : List GRule) {n k : Nat} (hk : k ≤ n) (x : Int) : x ∈ beforeL rs n ((k : Int) + 1) ↔ x ∈ (stageF rs n k).2 := by
  rw [stage_in]
  unfold beforeL
  constructor
  · intro h
    obtain ⟨j, hj, rfl⟩ := List.mem_map.1 h
    obtain ⟨h1, h2⟩ := List.mem_filter.1 hj
    rw [Bool.and_eq_true, decide_eq_true_eq, decide_eq_true_eq] at h2
    refine ⟨j, List.mem_range.1 h1, rfl, ?_⟩
    obtain ⟨i, hi, e, h3, h4⟩ := stage_round rs n j n (by omega)
    have h5 := (stage_split rs n i j).1.2 ⟨h3, h4⟩
    rw [stage_le rs n j (show i + 1 ≤ k by omega) (by omega)]
    omega
  · rintro ⟨j, hj, rfl, hne⟩
    have h1 := stage_le rs n j hk hne
    have h2 := stage_bd rs n k j
    exact List.mem_map.2 ⟨j, List.mem_filter.2 ⟨List.mem_range.2 hj, by rw [Bool.and_eq_true, decide_eq_true_eq, decide_eq_true_eq]; omega⟩, rfl⟩
structure ClosedLaw (rs : List GRule) (n : Nat) (m : List Int) : Prop where
  d : defB n rs = true
  set : incB n (leastL rs n) = true
  least : ∀ r ∈ rs, r.head.length ≠ 0 → bodyC r (leastL rs n) = true → inB r.head (leastL rs n) = true
  small : rs.all (okM m) = true → inB (leastL rs n) m = true
  has : ∀ j : Nat, j < n → decide (0 < (stageF rs n n).1 j) = inB [(j : Int) + 1] (leastL rs n)
  now : ∀ j : Nat, j < n → 0 < (stageF rs n n).1 j → rs.any (nowB ((j : Int) + 1) (beforeL rs n ((stageF rs n n).1 j))) = true
  soon : ∀ j : Nat, j < n → 1 < (stageF rs n n).1 j → rs.any (nowB ((j : Int) + 1) (beforeL rs n ((stageF rs n n).1 j - 1))) = false
theorem closed_law {rs : List GRule} {n : Nat} (hd : defB n rs = true) (hs : ∀ r ∈ rs, SumIs r) (m : List Int) : ClosedLaw rs n m := by
  have hr := defB_all hd
  have hc : ∀ r ∈ rs, ∀ b, bodyC r b = bodyB r b := fun r h b => (hs r h).bodyC b
  have hany : ∀ a B, rs.any (nowB a B) = derivB rs B a := fun a B => by
    unfold derivB derB nowB headB
    rw [Bool.eq_iff_iff, List.any_eq_true, List.any_eq_true]
    exact ⟨fun ⟨r, h1, h2⟩ => ⟨r, h1, by rw [hc r h1] at h2; exact h2⟩, fun ⟨r, h1, h2⟩ => ⟨r, h1, by rw [hc r h1]; exact h2⟩⟩
  have hcong : ∀ B B' a, (∀ x, x ∈ B ↔ x ∈ B') → derivB rs B a = derivB rs B' a := fun B B' a h => by
    rw [Bool.eq_iff_iff]
    exact ⟨deriv_mono hr (fun _ h => h) fun x hx => (h x).1 hx, deriv_mono hr (fun _ h => h) fun x hx => (h x).2 hx⟩
  have hone : ∀ r ∈ rs, r.head.length ≠ 0 → ∃ j : Nat, j < n ∧ r.head = [(j : Int) + 1] := fun r h h0 => by
    have hi := defR_is (hr r h)
    match hh : r.head, hi.one with
    | [], _ => rw [hh] at h0; simp at h0
    | [a], _ =>
      have := inc_mem hi.is.head a (by rw [hh]; simp)
      exact ⟨(a - 1).toNat, by omega, by rw [show (((a - 1).toNat : Nat) : Int) + 1 = a by omega]⟩
    | _ :: _ :: _, h => simp at h
  refine ⟨hd, least_inc rs n, fun r h h0 hb => ?_, fun hall => ?_, fun j hj => ?_, fun j hj h0 => ?_, fun j hj h1 => ?_⟩
  · obtain ⟨j, hj, e⟩ := hone r h h0
    rw [hc r h, body_congr (defR_is (hr r h)) (least_mem rs n)] at hb
    have := stage_last rs hj (by unfold derivB derB; rw [List.any_eq_true]; exact ⟨r, h, by rw [e, hb]; simp⟩)
    rw [e]
    unfold inB
    simp only [List.all_cons, List.all_nil, Bool.and_true, decide_eq_true_eq]
    exact (least_mem rs n _).2 ((stage_in rs n n _).2 ⟨j, hj, rfl, this⟩)
  · have key : ∀ k, ∀ x ∈ (stageF rs n k).2, x ∈ m := by
      intro k
      induction k with
      | zero => intro x hx; simp [stageF] at hx
      | succ k ih =>
        intro x hx
        obtain ⟨j, hj, rfl, hne⟩ := (stage_in rs n (k + 1) x).1 hx
        rcases (stage_split rs n k j).2.1 hne with h | h
        · exact ih _ ((stage_in rs n k _).2 ⟨j, hj, rfl, h⟩)
        · have h2 := ((stage_split rs n k j).1.1 h).2
          unfold derivB derB at h2
          rw [List.any_eq_true] at h2
          obtain ⟨r, hm, hb⟩ := h2
          rw [Bool.and_eq_true, decide_eq_true_eq] at hb
          have hne2 : r.head.length ≠ 0 := fun e => by
            rw [List.eq_nil_of_length_eq_zero e] at hb; simp at hb
          obtain ⟨i, _, e⟩ := hone r hm hne2
          have h3 := List.all_eq_true.1 hall r hm
          have h4 : bodyC r m = true := by rw [hc r hm]; exact body_mono (defR_is (hr r hm)) ih hb.2
          unfold okM at h3
          rw [decide_eq_false hne2, h4] at h3
          have h5 : inB r.head m = true := by simpa using h3
          rw [e] at h5 hb
          have : (i : Int) + 1 = (j : Int) + 1 := by simpa using hb.1
          unfold inB at h5
          rw [← this]
          simpa using h5
    unfold inB
    rw [List.all_eq_true]
    intro x hx
    rw [decide_eq_true_eq]
    exact key n x ((least_mem rs n x).1 hx)
  · unfold inB
    simp only [List.all_cons, List.all_nil, Bool.and_true]
    rw [Bool.eq_iff_iff, decide_eq_true_eq, decide_eq_true_eq, least_mem, stage_in]
    have := stage_bd rs n n j
    constructor
    · intro h; exact ⟨j, hj, rfl, by omega⟩
    · rintro ⟨i, _, e, h⟩
      obtain rfl : i = j := by omega
      omega
  · obtain ⟨k, hk, e, _, h2⟩ := stage_round rs n j n (by omega)
    rw [hany, e, hcong _ _ _ (before_mem rs (show k ≤ n by omega))]
    exact h2
  · obtain ⟨k, hk, e, h2, _⟩ := stage_round rs n j n (by omega)
    obtain ⟨i, rfl⟩ : ∃ i, k = i + 1 := ⟨k - 1, by omega⟩
    rw [hany, e, show ((i + 1 : Nat) : Int) + 1 - 1 = (i : Int) + 1 by omega, hcong _ _ _ (before_mem rs (show i ≤ n by omega))]
    rw [Bool.eq_false_iff]
    intro h3
    by_cases hz : (stageF rs n i).1 j = 0
    · have := (stage_split rs n i j).1.2 ⟨hz, h3⟩
      omega
    · have := stage_le rs n j (Nat.le_succ i) hz
      exact hz (by rw [← this]; exact h2)
/-- The rules of a valid program of few parts, made definite. -/
theorem def_sum {p : GProg} (hf : fewB p = true) (hv : validE p = 0) : ∀ r ∈ defL p.rules, SumIs r := fun r hr => by
  obtain ⟨q, hq, rfl⟩ := List.mem_map.1 hr
  have h1 := (validE_is hv).rules q hq
  have h2 := few_rule hf q hq
  refine sumIs_of (ruleE_is (defOne_is h1)) ?_
  have h3 := List.length_filter_le isPos q.body
  have h4 : (q.head.take 1).length ≤ q.head.length := by rw [List.length_take]; omega
  have h5 : (if q.sum then posW (zp q) else []).length ≤ q.w.length := by
    split
    · have h6 := posW_len (zp q)
      have h7 : (zp q).length ≤ q.w.length := by unfold zp; rw [List.length_zip]; omega
      omega
    · simp
  show (q.head.take 1).length + (q.body.filter isPos).length + (if q.sum then posW (zp q) else []).length ≤ 36
  omega
end Go.Proofs.Ytcbkkjcleiibfaa

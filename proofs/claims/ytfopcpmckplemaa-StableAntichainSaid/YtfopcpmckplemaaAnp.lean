/- StableAntichain (plain): the two programs that the law makes, and what the law says of them. -/
import Derived.Test.YtfopcpmckplemaaSt4
import Derived.Test.YtfopcpmckplemaaSl1
import Derived.Test.YtfopcpmckplemaaLb2
namespace Go.Proofs.Ytfopcpmckplemaa

/-- The rule as a disjunction. -/
def qR (r : GRule) : GRule := { r with choice := false }
/-- The positive part of a rule, with at most one atom in its head. -/
def posX (r : GRule) : GRule := ⟨false, r.head.take 1, r.sum, r.bound, r.body.filter isPos, if r.sum then posW (zp r) else []⟩
def qP (p : GProg) : GProg := withP p.n (p.rules.map qR)
def pP (p : GProg) : GProg := withP p.n (p.rules.map posX)
theorem qR_is {r : GRule} {n : Int} (h : ruleE r n = 0) : ruleE (qR r) n = 0 := by
  unfold ruleE qR at *
  split at h
  · cases h
  · rename_i h1
    split at h
    · cases h
    · rename_i h2
      split at h
      · cases h
      · rename_i h3
        split at h
        · cases h
        · rename_i h4
          rw [if_neg h1, if_neg, if_neg h3, if_neg h4]
          simp at h2 ⊢
          exact h2.1
theorem incB_take {n : Int} {xs : List Int} (h : incB n xs = true) (k : Nat) : incB n (xs.take k) = true := incB_sub h (List.take_sublist _ _)
theorem posX_is {r : GRule} {n : Int} (hi : RuleIs r n) : ruleE (posX r) n = 0 := by
  have h0 := hi.n0
  have h1 := hi.n1
  have hb := ordB_filter hi.body isPos
  have hh := incB_take hi.head 1
  unfold ruleE posX
  simp only
  rw [if_neg (by omega), if_neg (by rw [hh]; simp), if_neg (by rw [hb]; simp)]
  by_cases hsum : r.sum = true
  · have hw := wtGo_spec r.w 0 (by omega) (by omega) (hi.wt hsum)
    have hwl := hi.wlen hsum
    have hb0 := hi.b0 hsum
    have hb1 := hi.b1 hsum
    have hwt : wtB (posW (zp r)) (r.body.filter isPos).length = true := by
      unfold wtB
      rw [show (posW (zp r)).length = (r.body.filter isPos).length from posW_length hwl]
      have h2 := posW_sum r.body r.w fun y hy => by have := hw.1 y hy; omega
      have h3 : wtGo 0 (posW (zp r)) = true := wtGo_of _ 0 (fun y hy => by
        obtain ⟨x, hx⟩ := posW_mem hy
        exact hw.1 y (List.of_mem_zip hx).2) (by change (posW (zp r)).sum ≤ _ at h2; omega)
      simp [h3]
    rw [if_neg]
    rw [hsum, if_pos rfl, hwt]; simp; omega
  · have hf : r.sum = false := by simpa using hsum
    have hp := hi.plain hf
    rw [if_neg (by simp [hf, hp.2])]
theorem posX_def {r : GRule} {n : Int} (hi : RuleIs r n) : DefIs (posX r) n :=
  ⟨ruleE_is (posX_is hi), fun x hx => by simpa [posX, isPos] using (List.mem_filter.1 hx).2, rfl, by simp [posX]; omega⟩
structure AntiLaw (p : GProg) (all one : List (List Int)) (least : List Int) (md : Bool) : Prop where
  qv : validE (qP p) = 0
  qs : SmallP (qP p)
  pv : validE (pP p) = 0
  ps : SmallP (pP p)
  anti : ∀ a ∈ all, ∀ b ∈ all, a.length < b.length → inB a b = false
  pd : defB p.n (p.rules.map posX) = true
  pc : checkE (pP p) least = 0
  one : one = if md then [least] else []
  few : p.rules.length ≤ 16
theorem anti_law {p : GProg} (h : smallB p = true) : AntiLaw p (allL (qP p)) (allL (pP p)) (leastL (p.rules.map posX) p.n.toNat) (modelB (pP p) (leastL (p.rules.map posX) p.n.toNat)) := by
  obtain ⟨h1, h2, h3⟩ := small_is h
  have hp := validE_is h3
  have hn := valid_n h3
  have hf := few_head h1
  have hre : ∀ r ∈ p.rules, ruleE r p.n = 0 := rulesE_mem (validE_parts h3).2.2.1
  have qv : validE (qP p) = 0 := withP_valid hn (by omega) (by simp; omega) (fun r hr => by
    obtain ⟨x, hx, rfl⟩ := List.mem_map.1 hr
    exact qR_is (hre x hx))
  have hpx : ∀ r ∈ p.rules.map posX, DefIs r p.n := fun r hr => by
    obtain ⟨x, hx, rfl⟩ := List.mem_map.1 hr
    exact posX_def (hp.rules x hx)
  have hpe : ∀ r ∈ p.rules.map posX, ruleE r p.n = 0 := fun r hr => by
    obtain ⟨x, hx, rfl⟩ := List.mem_map.1 hr
    exact posX_is (hp.rules x hx)
  have pv : validE (pP p) = 0 := withP_valid hn (by omega) (by simp; omega) hpe
  have qs : SmallP (qP p) := ⟨validE_is qv, hn, by show p.n ≤ 12; omega, by simp [qP, withP]; omega⟩
  have ps : SmallP (pP p) := ⟨validE_is pv, hn, by show p.n ≤ 12; omega, by simp [pP, withP]; omega⟩
  refine ⟨qv, qs, pv, ps, fun a ha b hb hlt => ?_, defB_of hn (by omega) (by simp; omega) fun r hr => ?_, check_of pv ?_, positive_all (p := pP p) hpx hn, hf.1⟩
  · cases hin : inB a b with
    | false => rfl
    | true =>
      exfalso
      obtain ⟨a1, a2⟩ := (all_mem (qP p) (show 0 ≤ (qP p).n from hn) a).1 ha
      obtain ⟨b1, b2⟩ := (all_mem (qP p) (show 0 ≤ (qP p).n from hn) b).1 hb
      have := antichain (p := qP p) qs.is hn (fun r hr => by
        obtain ⟨x, _, rfl⟩ := List.mem_map.1 hr
        rfl) a1 b1 a2 b2 (fun x hx => by simpa using List.all_eq_true.1 hin x hx)
      rw [this] at hlt; omega
  · have hd := hpx r hr
    unfold defR
    rw [decide_eq_true (hpe r hr), hd.plain, decide_eq_true hd.one, List.all_eq_true.2 fun x hx => by have := hd.pos x hx; simp; omega]
    rfl
  · have := least_inc (p.rules.map posX) p.n.toNat
    rwa [show ((p.n.toNat : Nat) : Int) = p.n by omega] at this
/-- A body and its weights while the loop has come to k. -/
def wOf (r : GRule) (k : Nat) : List Int := if r.sum then posW ((zp r).take k) else []
theorem map_take_snoc {α β : Type} (f : α → β) {l : List α} {k : Nat} {x : α} (h : l[k]? = some x) : (l.take (k + 1)).map f = (l.take k).map f ++ [f x] := by rw [take_snoc' h]; simp
end Go.Proofs.Ytfopcpmckplemaa

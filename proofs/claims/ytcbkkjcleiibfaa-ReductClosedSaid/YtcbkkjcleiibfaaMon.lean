/- Definite rules (plain): what ostlerlaw19.definite makes of a rule; larger sets and more rules. -/
import Derived.Test.YtcbkkjcleiibfaaMdl
import Derived.Test.YtcbkkjcleiibfaaSbs
import Derived.Laws.BitsAllLaws
namespace Go.Proofs.Ytcbkkjcleiibfaa
open Go.RowKit

def defOne (r : GRule) : GRule := ⟨false, r.head.take 1, r.sum, r.bound, r.body.filter isPos, if r.sum then posW (zp r) else []⟩
def defL (rs : List GRule) : List GRule := rs.map defOne
theorem incB_sub {n : Int} {xs ys : List Int} (h : incB n xs = true) (hs : ys.Sublist xs) : incB n ys = true := by
  unfold incB at *
  rw [Bool.and_eq_true] at *
  obtain ⟨h1, h2, _⟩ := (ordGo_iff n xs none).1 h.1
  exact ⟨(ordGo_iff n _ none).2 ⟨fun x hx => h1 x (hs.subset hx), h2.sublist hs, fun _ e => by cases e⟩, List.all_eq_true.2 fun x hx => List.all_eq_true.1 h.2 x (hs.subset hx)⟩
theorem defOne_is {r : GRule} {n : Int} (hi : RuleIs r n) : ruleE (defOne r) n = 0 := by
  have h0 := hi.n0
  have h1 := hi.n1
  have hb := ordB_filter hi.body isPos
  have hh := incB_sub hi.head (List.take_sublist 1 r.head)
  by_cases hsum : r.sum = true
  · have hw := wtGo_spec r.w 0 (by omega) (by omega) (hi.wt hsum)
    have hwl := hi.wlen hsum
    have hb0 := hi.b0 hsum
    have hb1 := hi.b1 hsum
    have hwt : wtB (posW (zp r)) (r.body.filter isPos).length = true := by
      unfold wtB
      rw [show (posW (zp r)).length = (r.body.filter isPos).length from posW_length hwl]
      have h2 := posW_sum r.body r.w fun y hy => by have := hw.1 y hy; omega
      have h3 : wtGo 0 (posW (zp r)) = true := wtGo_of _ 0 (fun y hy => by
        obtain ⟨x, hx⟩ := posW_mem hy
        exact hw.1 y (List.of_mem_zip hx).2) (by change (posW (zp r)).sum ≤ _ at h2; omega)
      simp [h3]
    have e : defOne r = ⟨false, r.head.take 1, true, r.bound, r.body.filter isPos, posW (zp r)⟩ := by unfold defOne; rw [hsum]; rfl
    rw [e]
    unfold ruleE
    rw [if_neg (by omega), if_neg (by rw [hh]; simp), if_neg (by rw [hb]; simp), if_neg]
    rw [hwt]; simp; omega
  · have hf : r.sum = false := by simpa using hsum
    have hp := hi.plain hf
    have e : defOne r = ⟨false, r.head.take 1, false, r.bound, r.body.filter isPos, []⟩ := by unfold defOne; rw [hf]; rfl
    rw [e]
    unfold ruleE
    rw [if_neg (by omega), if_neg (by rw [hh]; simp), if_neg (by rw [hb]; simp), if_neg (by simp [hp.2])]
theorem defOne_def {r : GRule} {n : Int} (hi : RuleIs r n) : defR n (defOne r) = true := by
  unfold defR
  rw [defOne_is hi]
  have h1 : (defOne r).body.all (fun x => decide (0 ≤ x)) = true := by
    rw [List.all_eq_true]
    intro x hx
    have : isPos x = true := (List.mem_filter.1 hx).2
    unfold isPos at this
    simp at this ⊢; omega
  rw [h1]
  have h2 : (defOne r).head.length ≤ 1 := List.length_take_le _ _
  simp only [decide_true, Bool.true_and, Bool.and_true, Bool.and_eq_true, decide_eq_true_eq]
  exact ⟨rfl, h2⟩
theorem defL_def {n : Int} {rs : List GRule} (h : ∀ r ∈ rs, RuleIs r n) : ∀ r ∈ defL rs, defR n r = true := fun r hr => by
  obtain ⟨q, hq, rfl⟩ := List.mem_map.1 hr
  exact defOne_def (h q hq)
theorem defB_of {n : Int} {rs : List GRule} (h0 : 0 ≤ n) (h1 : n ≤ 4000) (hl : rs.length ≤ 40000) (h : ∀ r ∈ rs, defR n r = true) : defB n rs = true := by
  unfold defB
  rw [decide_eq_true h0, decide_eq_true h1, decide_eq_true hl, List.all_eq_true.2 h]; rfl
theorem sumP_mono {m m' : List Int} (hs : ∀ x ∈ m, x ∈ m') : ∀ l : List (Int × Int), (∀ p ∈ l, 1 ≤ p.2) → sumP m l ≤ sumP m' l
  | [], _ => by simp [sumP]
  | p :: r, h => by
    have ih := sumP_mono hs r fun q hq => h q (by simp [hq])
    have hp := h p (by simp)
    simp only [sumP]
    by_cases h1 : p.1 ∈ m
    · rw [if_pos h1, if_pos (hs _ h1)]; omega
    · rw [if_neg h1]; split <;> omega
/-- A larger set makes true what a smaller one does. -/
theorem body_mono {r : GRule} {n : Int} (h : DefIs r n) {m m' : List Int} (hs : ∀ x ∈ m, x ∈ m') (hb : bodyB r m = true) : bodyB r m' = true := by
  have h1 := (body_need r m h.pos).1 hb
  have h2 := sumP_mono hs (bp r) fun p hp => (bp_bd h p hp).1
  refine (body_need r m' h.pos).2 ?_
  unfold needF at *
  omega
theorem deriv_mono {n : Int} {rs rs' : List GRule} (hd : ∀ r ∈ rs', defR n r = true) (hsub : ∀ r ∈ rs, r ∈ rs') {m m' : List Int} (hs : ∀ x ∈ m, x ∈ m') {a : Int} (h : derivB rs m a = true) : derivB rs' m' a = true := by
  unfold derivB at *
  rw [List.any_eq_true] at *
  obtain ⟨r, hr, hb⟩ := h
  refine ⟨r, hsub r hr, ?_⟩
  unfold derB at *
  rw [Bool.and_eq_true] at *
  exact ⟨hb.1, body_mono (defR_is (hd r (hsub r hr))) hs hb.2⟩
/- Stages. -/
theorem stage_keep (rs : List GRule) (n k j : Nat) (h : (stageF rs n k).1 j ≠ 0) : ∀ d, (stageF rs n (k + d)).1 j = (stageF rs n k).1 j
  | 0 => rfl
  | d + 1 => by
    have ih := stage_keep rs n k j h d
    have e : (stageF rs n (k + (d + 1))).1 j = if (stageF rs n (k + d)).1 j = 0 ∧ derivB rs (stageF rs n (k + d)).2 ((j : Int) + 1) = true then ((k + d : Nat) : Int) + 1 else (stageF rs n (k + d)).1 j := rfl
    rw [e, ih, if_neg (fun hx => h hx.1)]
theorem stage_le (rs : List GRule) (n j : Nat) {k m : Nat} (hkm : k ≤ m) (h : (stageF rs n k).1 j ≠ 0) : (stageF rs n m).1 j = (stageF rs n k).1 j := by
  obtain ⟨d, rfl⟩ : ∃ d, m = k + d := ⟨m - k, by omega⟩
  exact stage_keep rs n k j h d
/-- Where a round comes from. -/
theorem stage_round (rs : List GRule) (n j : Nat) : ∀ m, (stageF rs n m).1 j ≠ 0 → ∃ k, k < m ∧ (stageF rs n m).1 j = (k : Int) + 1 ∧ (stageF rs n k).1 j = 0 ∧ derivB rs (stageF rs n k).2 ((j : Int) + 1) = true
  | 0, h => absurd rfl h
  | m + 1, h => by
    by_cases hz : (stageF rs n m).1 j = 0
    · have h1 : (stageF rs n (m + 1)).1 j = (m : Int) + 1 := by
        rcases (stage_split rs n m j).2.1 h with h2 | h2
        · exact absurd hz h2
        · exact h2
      exact ⟨m, by omega, h1, (stage_split rs n m j).1.1 h1⟩
    · obtain ⟨k, h1, h2, h3, h4⟩ := stage_round rs n j m hz
      exact ⟨k, by omega, by rw [stage_le rs n j (Nat.le_succ m) hz]; exact h2, h3, h4⟩
/-- More rules have larger stages. -/
theorem stage_sub {n : Nat} {rs rs' : List GRule} (hd : ∀ r ∈ rs', defR n r = true) (hsub : ∀ r ∈ rs, r ∈ rs') : ∀ k, ∀ x ∈ (stageF rs n k).2, x ∈ (stageF rs' n k).2
  | 0, x, hx => by simp [stageF] at hx
  | k + 1, x, hx => by
    have ih := stage_sub hd hsub k
    obtain ⟨j, hj, rfl, hne⟩ := (stage_in rs n (k + 1) x).1 hx
    refine (stage_in rs' n (k + 1) _).2 ⟨j, hj, rfl, ?_⟩
    rcases (stage_split rs n k j).2.1 hne with h | h
    · obtain ⟨i, _, e, h2⟩ := (stage_in rs' n k _).1 (ih _ ((stage_in rs n k _).2 ⟨j, hj, rfl, h⟩))
      obtain rfl : i = j := by omega
      exact (stage_split rs' n k i).2.2 (.inl h2)
    · by_cases hz : (stageF rs' n k).1 j = 0
      · exact (stage_split rs' n k j).2.2 (.inr ((stage_split rs' n k j).1.2 ⟨hz, deriv_mono hd hsub ih ((stage_split rs n k j).1.1 h).2⟩))
      · exact (stage_split rs' n k j).2.2 (.inl hz)
theorem rounds_sub {n : Nat} {rs rs' : List GRule} (hd : ∀ r ∈ rs', defR n r = true) (hsub : ∀ r ∈ rs, r ∈ rs') {i : Nat} (hi : i < n) {x y : Int} (hx : x = (stageF rs n n).1 i) (hy : y = (stageF rs' n n).1 i) (h0 : 0 < x) : y ≠ 0 ∧ y ≤ x := by
  subst hx hy
  obtain ⟨k, hk, e, h1, h2⟩ := stage_round rs n i n (by omega)
  have h3 := (stage_split rs n k i).1.2 ⟨h1, h2⟩
  obtain ⟨j, _, e2, h4⟩ := (stage_in rs' n (k + 1) _).1 (stage_sub hd hsub (k + 1) _ ((stage_in rs n (k + 1) _).2 ⟨i, hi, rfl, by omega⟩))
  obtain rfl : j = i := by omega
  have h5 := stage_bd rs' n (k + 1) j
  rw [stage_le rs' n j (show k + 1 ≤ n by omega) h4]
  refine ⟨h4, ?_⟩
  rw [e]; omega
/- Sets by bits. -/
theorem bitB_or {a b : Int} {k : Nat} (ha0 : 0 ≤ a) (ha1 : a ≤ 65535) (hb0 : 0 ≤ b) (hb1 : b ≤ 65535) (h : bitB a k = true) : bitB (Go.bits BinOp.or IntKind.u16 a b) k = true := by
  obtain ⟨x, rfl⟩ := Int.eq_ofNat_of_zero_le ha0
  obtain ⟨y, rfl⟩ := Int.eq_ofNat_of_zero_le hb0
  have hlt : x ||| y < 65536 := Nat.or_lt_two_pow (n := 16) (by omega) (by omega)
  have key : ∀ z : Nat, z < 65536 → bitB (z : Int) k = Nat.testBit z k := fun z hz => by
    unfold bitB
    have e : ((z : Int) / 2 ^ k) = ((z / 2 ^ k : Nat) : Int) := by push_cast; rfl
    have hd : z / 2 ^ k ≤ z := Nat.div_le_self _ _
    rw [e, show (1 : Int) = ((1 : Nat) : Int) from rfl, u16_and_nat _ 1 (by omega) (by decide), Nat.testBit, Nat.shiftRight_eq_div_pow]
    generalize z / 2 ^ k = q
    have h1 : q &&& 1 = q % 2 := Nat.and_one_is_mod q
    have h2 : 1 &&& q = q % 2 := by rw [Nat.and_comm]; exact h1
    rw [h1, h2]
    rcases Nat.mod_two_eq_zero_or_one q with h3 | h3 <;> simp [h3]
  rw [u16_or_nat x y (by omega) (by omega), key _ hlt]
  rw [key x (by omega)] at h
  rw [Nat.testBit_or, h]; rfl
theorem subset_or {n a b : Int} (ha0 : 0 ≤ a) (ha1 : a ≤ 65535) (hb0 : 0 ≤ b) (hb1 : b ≤ 65535) : ∀ x ∈ subsetL n a, x ∈ subsetL n (Go.bits BinOp.or IntKind.u16 a b) := fun x hx => by
  unfold subsetL subL at *
  obtain ⟨i, hi, rfl⟩ := List.mem_map.1 hx
  obtain ⟨h1, h2⟩ := List.mem_filter.1 hi
  exact List.mem_map.2 ⟨i, List.mem_filter.2 ⟨h1, bitB_or ha0 ha1 hb0 hb1 h2⟩, rfl⟩
theorem or_u16 {a b : Int} (ha0 : 0 ≤ a) (ha1 : a ≤ 65535) (hb0 : 0 ≤ b) (hb1 : b ≤ 65535) : 0 ≤ Go.bits BinOp.or IntKind.u16 a b ∧ Go.bits BinOp.or IntKind.u16 a b ≤ 65535 := by
  obtain ⟨x, rfl⟩ := Int.eq_ofNat_of_zero_le ha0
  obtain ⟨y, rfl⟩ := Int.eq_ofNat_of_zero_le hb0
  have hlt : x ||| y < 65536 := Nat.or_lt_two_pow (n := 16) (by omega) (by omega)
  rw [u16_or_nat x y (by omega) (by omega)]; omega
end Go.Proofs.Ytcbkkjcleiibfaa

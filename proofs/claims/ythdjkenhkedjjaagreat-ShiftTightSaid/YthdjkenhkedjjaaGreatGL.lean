/- Several texts in one: Isb, Stb, Exw. -/
import Derived.Test.YthdjkenhkedjjaaGreatG5
import Derived.Test.YthdjkenhkedjjaaGreatRd7
import Derived.Test.YthdjkenhkedjjaaGreatG4
namespace Go.Proofs.YthdjkenhkedjjaaGreat
open Go.RowKit
theorem ord_len {n : Int} : ∀ (xs : List Int) (y : Int),litB y n = true → ordGo n (some y) xs = true → (xs.length : Int) + (2 * absI y + if y < 0 then 1 else 0) ≤ 2 * n + 1
 | [],y,hy,_ => by
  have h := litB_bd hy
  unfold absI
  simp only [List.length_nil]
  split <;> omega
 | x :: r,y,hy,h => by
  rw [ordGo_cons] at h
  simp only [Bool.and_eq_true] at h
  have ih := ord_len r x h.1.1 h.2
  have h2 := h.1.2
  have h3 := litB_bd h.1.1
  unfold litLt at h2
  simp only [Bool.or_eq_true,Bool.and_eq_true,decide_eq_true_eq] at h2
  rw [List.length_cons]
  unfold absI at *
  split at ih <;> split at h2 <;> (try split at h2) <;> omega
theorem ordB_len {n : Int} (h0 : 0 ≤ n) {xs : List Int} (h : ordB n xs = true) : (xs.length : Int) ≤ 2 * n := by
 cases xs with
 | nil => simp; omega
 | cons x r =>
  unfold ordB at h
  rw [ordGo_cons] at h
  simp only [Bool.and_eq_true,and_true] at h
  have h1 := ord_len r x h.1 h.2
  have h2 : x ≠ 0 := by have := h.1; simp [litB] at this; exact this.1
  rw [List.length_cons]
  unfold absI at h1
  split at h1 <;> omega
theorem inc_go_len : ∀ (xs : List Int) (lo n : Int),xs.Pairwise (· < ·) → (∀ x ∈ xs,lo < x ∧ x ≤ n) → lo ≤ n → (xs.length : Int) ≤ n - lo
 | [],lo,n,_,_,h => by simp; omega
 | x :: r,lo,n,hp,hx,h => by
  rw [List.pairwise_cons] at hp
  have h1 := hx x (by simp)
  have ih := inc_go_len r x n hp.2 (fun y hy => ⟨hp.1 y hy,(hx y (by simp [hy])).2⟩) h1.2
  rw [List.length_cons]; omega
theorem inc_lenN {n : Int} (h0 : 0 ≤ n) {xs : List Int} (h : incB n xs = true) : (xs.length : Int) ≤ n := by
 have := inc_go_len xs 0 n (inc_pair h) (fun x hx => by have := inc_mem h x hx; omega) h0
 omega
theorem bodyC_rule {r : GRule} {n : Int} (h : RuleIs r n) (m : List Int) : bodyC r m = bodyB r m := by
 have hl := ordB_len h.n0 h.body
 have hn := h.n1
 have hsum : r.sum = true → (∀ x ∈ r.w,1 ≤ x) ∧ 0 + r.w.sum ≤ 1048576 := fun hs => wtGo_spec r.w 0 (by omega) (by omega) (h.wt hs)
 unfold bodyC
 rw [bad_of (by omega) (fun x hx => by
  have h1 := ordGo_mem n r.body none h.body x hx
  have h2 := litB_bd h1
  have h4 : x ≠ 0 := by simp [litB] at h1; exact h1.1
  omega) h.wlen]
 cases hs : r.sum with
 | false => simp
 | true =>
  obtain ⟨h1,h2⟩ := hsum hs
  simp [wOut_ok (l := r.w) fun y hy => by
   have := mem_le_sum h1 hy
   have := h1 y hy
   omega]
end Go.Proofs.YthdjkenhkedjjaaGreat
namespace Go.Proofs.YthdjkenhkedjjaaGreat
def sumG (f : Int → Bool) : List Int → List Int → Int
 | x :: xs,y :: ys => (if f x then y else 0) + sumG f xs ys
 | _,_ => 0
end Go.Proofs.YthdjkenhkedjjaaGreat
namespace Go.Proofs.YthdjkenhkedjjaaGreat
open Go.RowKit
theorem ex_litB {x n n' : Int} (h : litB x n = true) (hn : n ≤ n') : litB x n' = true := by
 unfold litB at h ⊢
 simp only [Bool.and_eq_true,bne_iff_ne,decide_eq_true_eq] at h ⊢
 omega
theorem ex_ordGo {n n' : Int} (hn : n ≤ n') : ∀ (xs : List Int) (q : Option Int),ordGo n q xs = true → ordGo n' q xs = true
 | [],_,_ => rfl
 | x :: r,q,h => by
  rw [ordGo_cons,Bool.and_eq_true,Bool.and_eq_true] at h ⊢
  exact ⟨⟨ex_litB h.1.1 hn,h.1.2⟩,ex_ordGo hn r _ h.2⟩
theorem ex_incB {n n' : Int} {xs : List Int} (h : incB n xs = true) (hn : n ≤ n') : incB n' xs = true := by
 unfold incB ordB at h ⊢
 rw [Bool.and_eq_true] at h ⊢
 exact ⟨ex_ordGo hn _ _ h.1,h.2⟩
theorem ex_ruleE {r : GRule} {n : Int} (h : RuleIs r n) : ruleE r n = 0 := by
 have h0 := h.n0
 have h1 := h.n1
 unfold ruleE
 rw [if_neg (by omega),if_neg (by
  rw [h.head]; rintro (e | ⟨e,f⟩)
  ·cases e
  ·exact h.choice e (List.eq_nil_of_length_eq_zero f)),if_neg (by rw [h.body]; simp),if_neg ?_]
 rintro (⟨e,f⟩ | ⟨e,f⟩)
 ·have := h.plain e
  rw [this.1,this.2] at f
  simp at f
 ·have a := h.wt e
  have b := h.wlen e
  have c := h.b0 e
  have d := h.b1 e
  unfold wtB at f
  rw [a,b] at f
  simp at f
  omega
theorem RuleIs.wide {r : GRule} {n n' : Int} (h : RuleIs r n) (hn : n ≤ n') (h4 : n' ≤ 4000) : RuleIs r n' :=
 { h with n0 := by have := h.n0; omega,n1 := h4,head := ex_incB h.head hn,body := ex_ordGo hn _ _ h.body }
theorem ex_minGo {n n' : Int} (hn : n ≤ n') : ∀ (xs : List GMin) (q : Option GMin),minGoE n q xs = true → minGoE n' q xs = true
 | [],_,_ => rfl
 | x :: r,q,h => by
  rw [minGoE_cons,Bool.and_eq_true,Bool.and_eq_true] at h ⊢
  refine ⟨⟨?_,h.1.2⟩,ex_minGo hn r _ h.2⟩
  have h1 := h.1.1
  unfold minOk at h1 ⊢
  simp only [Bool.and_eq_true] at h1 ⊢
  exact ⟨⟨⟨ex_ordGo hn _ _ h1.1.1.1,h1.1.1.2⟩,h1.1.2⟩,h1.2⟩
theorem ex_zeros (k : Nat) : ∀ seen : List ByteArray,(∀ t ∈ seen,t.size ≠ 0) → namesGo seen (List.replicate k ByteArray.empty) = true := by
 induction k with
 | zero => intro _ _; rfl
 | succ k ih =>
  intro seen hs
  rw [List.replicate_succ,namesGo_cons]
  have h1 : hasS ByteArray.empty seen = false := by
   unfold hasS
   rw [List.any_eq_false]
   intro t ht e
   have e := of_decide_eq_true e
   exact hs t ht (by rw [e]; rfl)
  rw [h1,if_pos (by rfl),ih seen hs]
  decide
theorem ex_names (k : Nat) : ∀ (xs seen : List ByteArray),(∀ t ∈ seen,t.size ≠ 0) → namesGo seen xs = true → namesGo seen (xs ++ List.replicate k ByteArray.empty) = true
 | [],seen,hs,_ => ex_zeros k seen hs
 | x :: r,seen,hs,h => by
  rw [List.cons_append,namesGo_cons,Bool.and_eq_true]
  rw [namesGo_cons,Bool.and_eq_true] at h
  refine ⟨h.1,ex_names k r _ ?_ h.2⟩
  split
  ·exact hs
  ·rename_i h0
   intro t ht
   rcases List.mem_cons.1 ht with e | e
   ·rw [e]; exact h0
   ·exact hs t e
theorem ex_rulesE {n : Int} : ∀ rs : List GRule,(∀ r ∈ rs,ruleE r n = 0) → rulesE n rs = 0
 | [],_ => rfl
 | r :: t,h => by
  unfold rulesE
  rw [if_pos (h r (by simp))]
  exact ex_rulesE t fun x hx => h x (by simp [hx])
theorem ex_validE {p : GProg} (h : ProgIs p) : validE p = 0 := by
 unfold validE
 have h2 := h.few
 have h4 := h.mins
 rw [if_neg (by rw [h.named]; simp),if_neg (by omega),if_neg (by rw [ex_rulesE p.rules fun r hr => ex_ruleE (h.rules r hr)]; simp),if_neg (by omega),if_neg (by rw [h.min]; simp)]
end Go.Proofs.YthdjkenhkedjjaaGreat

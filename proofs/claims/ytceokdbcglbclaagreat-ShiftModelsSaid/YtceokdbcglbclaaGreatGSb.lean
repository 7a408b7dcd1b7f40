/- Several texts in one: Dsn, Shq, Shs, Shl, Shm, Shz. -/
import Derived.Test.YtceokdbcglbclaaGreatGU
import Derived.Test.YtceokdbcglbclaaGreatGSa
import Derived.Test.YtceokdbcglbclaaGreatGQ
import Derived.Test.YtceokdbcglbclaaGreatGN
namespace Go.Proofs.YtceokdbcglbclaaGreat
open Go.RowKit
theorem disN_rev : ∀ rs : List Int,disN rs.reverse ≤ rs.length ∧ (disN rs.reverse = rs.length ↔ rs.Nodup)
 | [] => ⟨by simp [disN,disL],by simp [disN,disL]⟩
 | a :: r => by
  obtain ⟨h1,h2⟩ := disN_rev r
  rw [List.reverse_cons,disN_snoc,List.length_cons,List.nodup_cons]
  split
  ·rename_i h
   rw [List.mem_reverse] at h
   refine ⟨by omega,?_⟩
   constructor
   ·intro q; omega
   ·intro q; exact absurd h q.1
  ·rename_i h
   rw [List.mem_reverse] at h
   refine ⟨by omega,?_⟩
   rw [show disN r.reverse + 1 = r.length + 1 ↔ disN r.reverse = r.length from by omega,h2]
   exact ⟨fun q => ⟨h,q⟩,fun q => q.2⟩
theorem disN_lt (ks : List Int) : disN ks < ks.length ↔ ¬ ks.Nodup := by
 obtain ⟨h1,h2⟩ := disN_rev ks.reverse
 rw [List.reverse_reverse,List.length_reverse] at h1 h2
 have h3 : ks.reverse.Nodup ↔ ks.Nodup := by unfold List.Nodup; rw [List.pairwise_reverse]; exact ⟨fun h => h.imp Ne.symm,fun h => h.imp Ne.symm⟩
 rw [h3] at h2
 rw [← h2]; omega
end Go.Proofs.YtceokdbcglbclaaGreat
namespace Go.Proofs.YtceokdbcglbclaaGreat
def sfP (p : GProg) : GProg := extP { p with rules := [] } (sfC p.rules) (sfL p.rules p.n)
theorem pre_of {r : GRule} {n N : Int} (h : RuleIs r n) (hn : n ≤ N) (hN : N ≤ 4000) : PreRule r N := by
 have h0 := h.n0
 have h1 := h.n1
 refine ⟨by omega,hN,fun a ha => ?_,h.choice,fun x hx => ex_litB (ord_lit h.body x hx) hn,h.plain,h.wlen,h.wt,h.b0,h.b1,?_,?_⟩
 ·have := inc_mem h.head a ha; omega
 ·have := inc_lenN h0 h.head; omega
 ·have := ordB_len h0 h.body; omega
theorem sf_pre1 {r x : GRule} {n N : Int} {k : Nat} (h : RuleIs r n) (hk : n + (k : Int) + (sfN r : Int) ≤ N) (hN : N ≤ 4000) (hx : x ∈ sfRule r (n + (k : Int) + 1)) : PreRule x N := by
 have h0 := h.n0
 have hn : n ≤ N := by omega
 have hp := pre_of h hn hN
 unfold sfRule at hx
 split at hx
 ·rename_i hd
  rcases List.mem_append.1 hx with h1 | h1
  ·unfold sfU at h1
   split at h1
   ·rename_i hs
    rw [List.mem_singleton] at h1
    subst h1
    have hk1 : sfN r = 1 := by unfold sfN; rw [hd,hs]; rfl
    refine ⟨hp.n0,hN,fun a ha => ?_,(by intro e; cases e),hp.body,(by intro e; cases e),fun _ => hp.wlen hs,fun _ => hp.wt hs,fun _ => hp.b0 hs,fun _ => hp.b1 hs,(by simp [sfX]),hp.bl⟩
    have : a = n + (k : Int) + 1 := by simpa [sfX] using ha
    omega
   ·cases h1
  ·obtain ⟨a,ha,rfl⟩ := List.mem_map.1 h1
   have hA := inc_mem h.head a ha
   refine ⟨hp.n0,hN,fun b hb => ?_,(by intro e; cases e),fun y hy => ?_,fun _ => ⟨rfl,rfl⟩,(by intro e; cases e),(by intro e; cases e),(by intro e; cases e),(by intro e; cases e),(by simp [sfH]),?_⟩
   ·have : b = a := by simpa [sfH] using hb
    omega
   ·rcases List.mem_append.1 hy with h2 | h2
    ·unfold sfB at h2
     split at h2
     ·rename_i hs
      have hk1 : sfN r = 1 := by unfold sfN; rw [hd,hs]; rfl
      rw [List.mem_singleton] at h2
      rw [litB_iff]; omega
     ·exact hp.body y h2
    ·obtain ⟨o,ho,_,rfl⟩ := sfO_mem.1 h2
     have := inc_mem h.head o ho
     rw [litB_iff]; omega
   ·show (sfB r _ ++ sfO r a).length ≤ 100000
    have h2 := inc_lenN h0 h.head
    have h3 := ordB_len h0 h.body
    have h4 := h.n1
    have h5 : (sfO r a).length ≤ r.head.length := by unfold sfO; rw [List.length_map]; exact List.length_filter_le _ _
    have h6 : (sfB r (n + (k : Int) + 1)).length ≤ r.body.length + 1 := by unfold sfB; split <;> simp
    rw [List.length_append]; omega
 ·rw [List.mem_singleton] at hx
  subst hx; exact hp
structure SfOk (p : GProg) : Prop where
 n : p.n + (sfC p.rules : Int) ≤ 4000
 l : (sfL p.rules p.n).length ≤ 40000
theorem sf_pre {p : GProg} (hi : ProgIs p) (h : p.n + (sfC p.rules : Int) ≤ 4000) : ∀ x ∈ sfL p.rules p.n,PreRule x (p.n + (sfC p.rules : Int)) := fun x hx => by
 obtain ⟨r,hr,k,hk,hx⟩ := sfL_mem hx
 exact sf_pre1 (hi.rules r hr) (by omega) h hx
theorem sf_is {p : GProg} (hi : ProgIs p) (h : SfOk p) : ProgIs (sfP p) := by
 have hb : ProgIs { p with rules := [] } := ⟨hi.named,by simp,by simp,hi.mins,hi.min⟩
 exact extP_is hb h.n (by simpa using h.l) fun x hx => norm_is (sf_pre hi h.n x hx)
theorem sf_small {p : GProg} (hi : ProgIs p) (hn : p.n ≤ 12) (hr : p.rules.length ≤ 20) : SfOk p := by
 have h0 := (namedB_n hi.named).1
 refine ⟨?_,?_⟩
 ·have := sfC_len p.rules; omega
 ·have h1 := sfL_len (N := 12) p.rules p.n fun r hm => by
   have := inc_lenN h0 (hi.rules r hm).head; omega
  have : (12 + 1) * p.rules.length ≤ 13 * 20 := Nat.mul_le_mul (by omega) hr
  omega
def shiftE (fr : Bool) (p : GProg) : Int := if validE p ≠ 0 then validE p else if fr then 0 else 220
end Go.Proofs.YtceokdbcglbclaaGreat
namespace Go.Proofs.YtceokdbcglbclaaGreat
def sfA (rs : List GRule) (n : Int) (k : Nat) : Int := n + (sfC (rs.take k) : Int) + 1
theorem sfL_at {z : GRule} {rs : List GRule} {n : Int} : z ∈ sfL rs n ↔ ∃ k r,rs[k]? = some r ∧ z ∈ sfRule r (sfA rs n k) := by
 induction rs generalizing n with
 | nil => simp [sfL]
 | cons r t ih =>
  unfold sfL
  rw [List.mem_append,ih]
  constructor
  ·rintro (h | ⟨k,q,hk,h⟩)
   ·exact ⟨0,r,rfl,by unfold sfA; simpa [sfC] using h⟩
   ·refine ⟨k + 1,q,by simpa using hk,?_⟩
    have e : sfA (r :: t) n (k + 1) = sfA t (n + (sfN r : Int)) k := by
     unfold sfA
     rw [List.take_succ_cons]
     have : sfC (r :: t.take k) = sfN r + sfC (t.take k) := rfl
     rw [this]; omega
    rw [e]; exact h
  ·rintro ⟨k,q,hk,h⟩
   cases k with
   | zero =>
    simp at hk; subst hk
    exact .inl (by unfold sfA at h; simpa [sfC] using h)
   | succ k =>
    refine .inr ⟨k,q,by simpa using hk,?_⟩
    have e : sfA (r :: t) n (k + 1) = sfA t (n + (sfN r : Int)) k := by
     unfold sfA
     rw [List.take_succ_cons]
     have : sfC (r :: t.take k) = sfN r + sfC (t.take k) := rfl
     rw [this]; omega
    rw [← e]; exact h
def lfF (f : GRule → Bool) : List GRule → Int → List Int
 | [],_ => []
 | r :: t,n => (if (djB r && r.sum) && f r then [n + 1] else []) ++ lfF f t (n + (sfN r : Int))
theorem lfF_mem {f : GRule → Bool} {a : Int} {rs : List GRule} {n : Int} : a ∈ lfF f rs n ↔ ∃ k r,rs[k]? = some r ∧ (djB r && r.sum) = true ∧ f r = true ∧ a = sfA rs n k := by
 induction rs generalizing n with
 | nil => simp [lfF]
 | cons r t ih =>
  unfold lfF
  rw [List.mem_append,ih]
  have e : ∀ k,sfA (r :: t) n (k + 1) = sfA t (n + (sfN r : Int)) k := fun k => by
   unfold sfA
   rw [List.take_succ_cons]
   have : sfC (r :: t.take k) = sfN r + sfC (t.take k) := rfl
   rw [this]; omega
  constructor
  ·rintro (h | ⟨k,q,hk,h1,h2,h3⟩)
   ·split at h
    ·rename_i hc
     rw [Bool.and_eq_true] at hc
     rw [List.mem_singleton] at h
     exact ⟨0,r,rfl,hc.1,hc.2,by unfold sfA; simpa [sfC] using h⟩
    ·cases h
   ·exact ⟨k + 1,q,by simpa using hk,h1,h2,by rw [e]; exact h3⟩
  ·rintro ⟨k,q,hk,h1,h2,h3⟩
   cases k with
   | zero =>
    simp at hk; subst hk
    rw [if_pos (by rw [h1,h2]; rfl)]
    exact .inl (by unfold sfA at h3; simpa [sfC] using h3)
   | succ k => exact .inr ⟨k,q,by simpa using hk,h1,h2,by rw [← e]; exact h3⟩
theorem lfF_snoc (f : GRule → Bool) : ∀ (rs : List GRule) (n : Int) (r : GRule),lfF f (rs ++ [r]) n = lfF f rs n ++ (if (djB r && r.sum) && f r then [n + (sfC rs : Int) + 1] else [])
 | [],n,r => by simp [lfF,sfC]
 | x :: t,n,r => by
  have h := lfF_snoc f t (n + (sfN x : Int)) r
  rw [List.cons_append]
  unfold lfF
  rw [h,List.append_assoc]
  have : sfC (x :: t) = sfN x + sfC t := rfl
  rw [this,show n + (sfN x : Int) + (sfC t : Int) + 1 = n + ((sfN x + sfC t : Nat) : Int) + 1 by omega]
theorem lfF_len (f : GRule → Bool) : ∀ (rs : List GRule) (n : Int),(lfF f rs n).length ≤ sfC rs
 | [],n => Nat.le_refl _
 | x :: t,n => by
  have h := lfF_len f t (n + (sfN x : Int))
  unfold lfF
  show _ ≤ sfN x + sfC t
  rw [List.length_append]
  have : (if ((djB x && x.sum) && f x) = true then [n + 1] else ([] : List Int)).length ≤ sfN x := by
   unfold sfN
   cases djB x && x.sum <;> simp
   split <;> simp
  omega
def liftL (p : GProg) (m : List Int) : List Int := m ++ lfF (fun r => bodyB r m) p.rules p.n
theorem sfA_gt (rs : List GRule) (n : Int) (k : Nat) : n < sfA rs n k := by unfold sfA; omega
theorem sfA_le {rs : List GRule} {n : Int} {k : Nat} {r : GRule} (h : rs[k]? = some r) (hd : (djB r && r.sum) = true) : sfA rs n k ≤ n + (sfC rs : Int) := by
 have h1 := sfC_take h
 have h2 := sfC_le rs (k + 1)
 have h3 : sfN r = 1 := by unfold sfN; rw [hd]; rfl
 unfold sfA; omega
theorem sfC_mono (rs : List GRule) {j k : Nat} (h : j ≤ k) : sfC (rs.take j) ≤ sfC (rs.take k) := by
 have := sfC_le (rs.take k) j
 rwa [List.take_take,Nat.min_eq_left h] at this
theorem sfA_inj {rs : List GRule} {n : Int} {j k : Nat} {r q : GRule} (hj : rs[j]? = some r) (hk : rs[k]? = some q) (hr : (djB r && r.sum) = true) (hq : (djB q && q.sum) = true) (h : sfA rs n j = sfA rs n k) : j = k := by
 have h1 := sfC_take hj
 have h2 := sfC_take hk
 have h3 : sfN r = 1 := by unfold sfN; rw [hr]; rfl
 have h4 : sfN q = 1 := by unfold sfN; rw [hq]; rfl
 unfold sfA at h
 rcases Nat.lt_trichotomy j k with hlt | rfl | hlt
 ·have := sfC_mono rs (show j + 1 ≤ k by omega); omega
 ·rfl
 ·have := sfC_mono rs (show k + 1 ≤ j by omega); omega
def Agr (n : Int) (m S : List Int) : Prop := ∀ a,a ≤ n → (a ∈ S ↔ a ∈ m)
theorem Agr.refl (n : Int) (m : List Int) : Agr n m m := fun _ _ => Iff.rfl
theorem agr_add {n : Int} {m new : List Int} (h : ∀ a ∈ new,n < a) : Agr n m (m ++ new) := fun a ha => by
 rw [List.mem_append]
 exact ⟨fun hx => hx.elim id fun h2 => by have := h a h2; omega,.inl⟩
theorem agr_dec {n : Int} {m S : List Int} (h : Agr n m S) {a : Int} (ha : a ≤ n) : decide (a ∈ S) = decide (a ∈ m) := by
 rw [Bool.eq_iff_iff,decide_eq_true_eq,decide_eq_true_eq]; exact h a ha
theorem body_agr {n : Int} {m s M S : List Int} (hm : Agr n m M) (hs : Agr n s S) {r : GRule} (hr : RuleIs r n) : bodyM r M S = bodyM r m s :=
 bodyM_congr (fun x hx => by have := litB_iff.1 (ord_lit hr.body x hx); exact hm _ (by omega)) (fun x hx => by have := litB_iff.1 (ord_lit hr.body x hx); exact hs _ (by omega))
theorem red_agr {n : Int} {m s M S : List Int} (hm : Agr n m M) (hs : Agr n s S) {r : GRule} (hr : RuleIs r n) : redB r M S = redB r m s :=
 redB_congr (fun x hx => by have := litB_iff.1 (ord_lit hr.body x hx); exact hm _ (by omega)) (fun x hx => by have := litB_iff.1 (ord_lit hr.body x hx); exact hs _ (by omega)) (fun a ha => by have := inc_mem hr.head a ha; exact ⟨hm _ (by omega),hs _ (by omega)⟩)
theorem satB_norm (r : GRule) (m : List Int) : satB (normR r) m = satB r m := by
 unfold satB
 rw [← bodyM_self,← bodyM_self,bodyM_norm]
 rw [show (normR r).head = litsOf r.head from rfl,any_lits]; rfl
theorem sat_redB {r : GRule} (h : r.choice = false) (m : List Int) : satB r m = redB r m m := by
 unfold satB redB
 rw [bodyM_self,h]; simp
theorem red_sfX {n : Int} {m s M S : List Int} (hm : Agr n m M) (hs : Agr n s S) {r : GRule} (hr : RuleIs r n) (hsum : r.sum = true) (x : Int) : redB (sfX r x) M S = (!bodyM r m s || decide (x ∈ S)) := by
 have e : bodyM (sfX r x) M S = bodyM r M S := by unfold bodyM sfX; simp [hsum]
 unfold redB
 rw [e,body_agr hm hs hr]
 simp [sfX]
theorem red_sfH {n : Int} {m s M S : List Int} (hm : Agr n m M) (hs : Agr n s S) {r : GRule} (hr : RuleIs r n) {x h : Int} (hx : 0 < x) (hh : h ∈ r.head) :
  redB (sfH r x h) M S = true ↔ ((if r.sum then x ∈ S else bodyM r m s = true) → (∀ o ∈ r.head,o ≠ h → o ∉ m) → h ∈ s) := by
 have hn := hr.n0
 have h1 : bodyM (sfH r x h) M S = ((sfB r x).all (litM M S) && (sfO r h).all (litM M S)) := by
  unfold bodyM
  rw [if_neg (by simp [sfH])]
  show (sfB r x ++ sfO r h).all _ = _
  rw [List.all_append]
 have h2 : (sfO r h).all (litM M S) = true ↔ ∀ o ∈ r.head,o ≠ h → o ∉ m := by
  rw [List.all_eq_true]
  constructor
  ·intro hq o ho hne hom
   have hor := inc_mem hr.head o ho
   have := hq (-o) (sfO_mem.2 ⟨o,ho,hne,rfl⟩)
   unfold litM at this
   rw [if_neg (by omega),Int.neg_neg,agr_dec hm hor.2] at this
   simp [hom] at this
  ·intro hq y hy
   obtain ⟨o,ho,hne,rfl⟩ := sfO_mem.1 hy
   have hor := inc_mem hr.head o ho
   unfold litM
   rw [if_neg (by omega),Int.neg_neg,agr_dec hm hor.2]
   simp [hq o ho hne]
 have h3 : (sfB r x).all (litM M S) = true ↔ (if r.sum then x ∈ S else bodyM r m s = true) := by
  unfold sfB
  by_cases hsum : r.sum = true
  ·rw [if_pos hsum,if_pos hsum]
   simp only [List.all_cons,List.all_nil,Bool.and_true]
   unfold litM
   rw [if_pos hx,decide_eq_true_eq]
  ·rw [if_neg hsum,if_neg hsum]
   rw [← body_agr hm hs hr]
   unfold bodyM
   rw [if_neg hsum]
 have hhr := inc_mem hr.head h hh
 unfold redB
 rw [if_neg (by simp [sfH]),Bool.or_eq_true,Bool.not_eq_true',h1]
 have h4 : (sfH r x h).head.any (fun a => decide (a ∈ S)) = decide (h ∈ s) := by
  show [h].any _ = _
  simp only [List.any_cons,List.any_nil,Bool.or_false]
  exact agr_dec hs hhr.2
 rw [h4,decide_eq_true_eq]
 rw [← h2,← h3]
 cases (sfB r x).all (litM M S) <;> cases (sfO r h).all (litM M S) <;> simp
def LfOk (p : GProg) (f : GRule → Bool) (S : List Int) : Prop := ∀ k r,p.rules[k]? = some r → (djB r && r.sum) = true → (sfA p.rules p.n k ∈ S ↔ f r = true)
theorem lift_ok {p : GProg} {f : GRule → Bool} {m : List Int} (hm : ∀ a ∈ m,a ≤ p.n) : LfOk p f (m ++ lfF f p.rules p.n) := fun k r hk hd => by
 have hg := sfA_gt p.rules p.n k
 rw [List.mem_append,lfF_mem]
 constructor
 ·rintro (h | ⟨j,q,hj,h1,h2,h3⟩)
  ·have := hm _ h; omega
  ·have e := sfA_inj hk hj hd h1 h3
   subst e
   rw [hk] at hj; cases hj; exact h2
 ·intro h
  exact .inr ⟨k,r,hk,hd,h,rfl⟩
theorem lift_gt {f : GRule → Bool} {rs : List GRule} {n : Int} : ∀ a ∈ lfF f rs n,n < a := fun a ha => by
 obtain ⟨k,r,_,_,_,rfl⟩ := lfF_mem.1 ha
 exact sfA_gt _ _ _
theorem sf_dj {r : GRule} (h : djB r = true) {x : Int} {z : GRule} : z ∈ sfRule r x ↔ (r.sum = true ∧ z = sfX r x) ∨ ∃ a ∈ r.head,z = sfH r x a := by
 unfold sfRule
 rw [if_pos h,List.mem_append,List.mem_map]
 unfold sfU
 constructor
 ·rintro (h1 | ⟨a,ha,rfl⟩)
  ·split at h1
   ·rename_i hs; rw [List.mem_singleton] at h1; exact .inl ⟨hs,h1⟩
   ·cases h1
  ·exact .inr ⟨a,ha,rfl⟩
 ·rintro (⟨h1,rfl⟩ | ⟨a,ha,rfl⟩)
  ·rw [if_pos h1]; exact .inl (by simp)
  ·exact .inr ⟨a,ha,rfl⟩
theorem sf_nd {r : GRule} (h : djB r = false) {x : Int} {z : GRule} : z ∈ sfRule r x ↔ z = r := by
 unfold sfRule
 rw [if_neg (by simp [h]),List.mem_singleton]
theorem sat_iff {r : GRule} {m : List Int} (hc : r.choice = false) : satB r m = true ↔ (bodyB r m = true → ∃ a ∈ r.head,a ∈ m) := by
 unfold satB
 rw [hc,Bool.false_or,Bool.or_eq_true,Bool.not_eq_true',List.any_eq_true]
 simp only [decide_eq_true_eq]
 cases bodyB r m <;> simp
theorem sf_sat {p : GProg} (hi : ProgIs p) {m S : List Int} (hm : Agr p.n m S) (hl : LfOk p (fun r => bodyB r m) S) :
  (∀ z ∈ sfL p.rules p.n,satB z S = true) ↔ ∀ r ∈ p.rules,satB r m = true := by
 have h0 := (namedB_n hi.named).1
 constructor
 ·intro h r hr
  obtain ⟨k,hk⟩ := List.getElem?_of_mem hr
  have hri := hi.rules r hr
  have hz : ∀ z ∈ sfRule r (sfA p.rules p.n k),satB z S = true := fun z hz => h z (sfL_at.2 ⟨k,r,hk,hz⟩)
  cases hd : djB r with
  | false =>
   have := hz r ((sf_nd hd).2 rfl)
   cases hc : r.choice with
   | true => unfold satB; rw [hc]; rfl
   | false => rw [sat_redB hc] at this ⊢; rw [red_agr hm hm hri] at this; exact this
  | true =>
   have hc := dj_choice hd
   rw [sat_iff hc]
   intro hb
   apply Classical.byContradiction
   intro hno
   have hno : ∀ a ∈ r.head,a ∉ m := fun a ha hm' => hno ⟨a,ha,hm'⟩
   obtain ⟨a,ha⟩ : ∃ a,a ∈ r.head := List.exists_mem_of_ne_nil _ (fun e => by have := dj_len hd; rw [e] at this; simp at this)
   have h1 := hz _ ((sf_dj hd).2 (.inr ⟨a,ha,rfl⟩))
   rw [sat_redB rfl,red_sfH hm hm hri (by have := sfA_gt p.rules p.n k; omega) ha] at h1
   refine hno a ha (h1 ?_ fun o ho _ => hno o ho)
   split
   ·rename_i hs
    exact (hl k r hk (by rw [hd,hs]; rfl)).2 hb
   ·rw [bodyM_self]; exact hb
 ·intro h z hz
  obtain ⟨k,r,hk,hz⟩ := sfL_at.1 hz
  have hr := List.mem_of_getElem? hk
  have hri := hi.rules r hr
  have hsr := h r hr
  cases hd : djB r with
  | false =>
   rw [sf_nd hd] at hz
   subst hz
   cases hc : z.choice with
   | true => unfold satB; rw [hc]; rfl
   | false => rw [sat_redB hc] at hsr ⊢; rw [red_agr hm hm hri]; exact hsr
  | true =>
   have hc := dj_choice hd
   rw [sat_iff hc] at hsr
   rcases (sf_dj hd).1 hz with ⟨hs,rfl⟩ | ⟨a,ha,rfl⟩
   ·rw [sat_redB rfl,red_sfX hm hm hri hs,bodyM_self]
    have := hl k r hk (by rw [hd,hs]; rfl)
    cases hb : bodyB r m with
    | false => rfl
    | true => rw [decide_eq_true (this.2 hb)]; rfl
   ·rw [sat_redB rfl,red_sfH hm hm hri (by have := sfA_gt p.rules p.n k; omega) ha]
    intro h1 h2
    have hb : bodyB r m = true := by
     split at h1
     ·rename_i hs
      exact (hl k r hk (by rw [hd,hs]; rfl)).1 h1
     ·rw [← bodyM_self]; exact h1
    obtain ⟨b,hb1,hb2⟩ := hsr hb
    by_cases e : b = a
    ·rw [← e]; exact hb2
    ·exact absurd hb2 (h2 b hb1 e)
structure LevP (p : GProg) (lv : Int → Int) : Prop where
 low : ∀ r ∈ p.rules,∀ h ∈ r.head,∀ b ∈ r.body,0 < b → lv b ≤ lv h
 part : ∀ r ∈ p.rules,djB r = true → ∀ h ∈ r.head,∀ o ∈ r.head,lv h = lv o → h = o
end Go.Proofs.YtceokdbcglbclaaGreat
namespace Go.Proofs.YtceokdbcglbclaaGreat
def lvP (p : GProg) (a : Int) : Int := nthZ (numL p.n.toNat (compT (ofL p))) a
theorem inj_nodup {f : Int → Int} : ∀ {l : List Int},(l.map f).Nodup → ∀ a ∈ l,∀ b ∈ l,f a = f b → a = b
 | [],_,a,ha,_,_,_ => by cases ha
 | x :: t,h,a,ha,b,hb,e => by
  rw [List.map_cons,List.nodup_cons] at h
  rcases List.mem_cons.1 ha with rfl | ha2 <;> rcases List.mem_cons.1 hb with rfl | hb2
  ·rfl
  ·exact absurd (List.mem_map.2 ⟨b,hb2,e.symm⟩) h.1
  ·exact absurd (List.mem_map.2 ⟨a,ha2,e⟩) h.1
  ·exact inj_nodup h.2 a ha2 b hb2 e
theorem nodup_inj {f : Int → Int} : ∀ {l : List Int},l.Nodup → (∀ a ∈ l,∀ b ∈ l,f a = f b → a = b) → (l.map f).Nodup
 | [],_,_ => by simp
 | x :: t,h,hf => by
  rw [List.nodup_cons] at h
  rw [List.map_cons,List.nodup_cons]
  refine ⟨fun hm => ?_,nodup_inj h.2 fun a ha b hb => hf a (by simp [ha]) b (by simp [hb])⟩
  obtain ⟨b,hb,e⟩ := List.mem_map.1 hm
  have := hf b (by simp [hb]) x (by simp) e
  subst this; exact h.1 hb
theorem lev_low {p : GProg} (hi : ProgIs p) : ∀ r ∈ p.rules,∀ h ∈ r.head,∀ b ∈ r.body,0 < b → lvP p b ≤ lvP p h := fun r hr h hh b hb h0 => by
 have hn := namedB_n hi.named
 have hl := of_len p
 have hg := of_ok hi hn.1 hn.2
 have h1 : 1 ≤ (ofL p).length := by omega
 have hc := comp_ok hg h1
 have e : p.n.toNat = (ofL p).length - 1 := by omega
 have hhr := inc_mem (hi.rules r hr).head h hh
 have hed : b ∈ rowZ (ofL p) h := (of_edge hn.1 (by omega) hhr.2).2 ⟨r,hr,hh,hb,h0⟩
 obtain ⟨i,c,hci,hx⟩ := hc.get (x := h) hhr.1 (by omega)
 obtain ⟨j,hj,d,hdj,hbd⟩ := hc.cl i c hci h hx b hed
 unfold lvP
 rw [e,numL_at hc h1 hci hx,numL_at hc h1 hdj hbd]; omega
theorem free_dj (p : GProg) : freeB p = true ↔ ∀ r ∈ p.rules,djB r = true → (r.head.map (lvP p)).Nodup := by
 have hl : ∀ r : GRule,(r.head.map fun a => nthZ (numL p.n.toNat (compT (ofL p))) a) = r.head.map (lvP p) := fun r => rfl
 unfold freeB
 rw [Bool.not_eq_true',List.any_eq_false]
 constructor
 ·intro h r hr hd
  have h1 := h r hr
  unfold hfB at h1
  rw [dj_choice hd,hl] at h1
  have h2 := disN_lt (r.head.map (lvP p))
  rw [List.length_map] at h2
  apply Classical.byContradiction
  intro hn
  exact h1 (by simpa using h2.2 hn)
 ·intro h r hr hb
  unfold hfB at hb
  rw [hl] at hb
  simp only [Bool.and_eq_true,Bool.not_eq_true',decide_eq_true_eq] at hb
  have h2 := disN_lt (r.head.map (lvP p))
  rw [List.length_map] at h2
  have h3 := h2.1 hb.2
  by_cases hlen : 1 < r.head.length
  ·exact h3 (h r hr (by unfold djB; rw [hb.1,decide_eq_true hlen]; rfl))
  ·refine h3 ?_
   match hh : r.head,hlen with
   | [],_ => simp
   | [a],_ => simp
   | a :: b :: t,hlen => simp at hlen
theorem free_lev {p : GProg} (hi : ProgIs p) (hf : freeB p = true) : LevP p (lvP p) :=
 ⟨lev_low hi,fun r hr hd h hh o ho e => inj_nodup ((free_dj p).1 hf r hr hd) h hh o ho e⟩
theorem lev_path {p : GProg} (hi : ProgIs p) {lv : Int → Int} (hl : ∀ r ∈ p.rules,∀ h ∈ r.head,∀ b ∈ r.body,0 < b → lv b ≤ lv h) {a b : Int} (h : Rch (ofL p) a b) : 1 ≤ a → a ≤ p.n → lv b ≤ lv a := by
 have hn := namedB_n hi.named
 have hg := of_ok hi hn.1 hn.2
 have hlen := of_len p
 induction h with
 | refl a => intro _ _; exact Int.le_refl _
 | step hb _ ih =>
  intro h1 h2
  obtain ⟨r,hr,q1,q2,q3⟩ := (of_edge hn.1 (by omega) h2).1 hb
  have h3 := hl r hr _ q1 _ q2 q3
  have h4 := litB_iff.1 (ord_lit (hi.rules r hr).body _ q2)
  have := ih (by omega) (by omega)
  omega
theorem lev_free {p : GProg} (hi : ProgIs p) {lv : Int → Int} (h : LevP p lv) : freeB p = true := by
 have hn := namedB_n hi.named
 have hlen := of_len p
 have hg := of_ok hi hn.1 hn.2
 have h1 : 1 ≤ (ofL p).length := by omega
 have hc := comp_ok hg h1
 have e : p.n.toNat = (ofL p).length - 1 := by omega
 rw [free_dj]
 intro r hr hd
 have hrr := inc_mem (hi.rules r hr).head
 refine nodup_inj ((inc_pair (hi.rules r hr).head).imp fun hab => by omega) fun a ha b hb he => ?_
 have hA := hrr a ha
 have hB := hrr b hb
 unfold lvP at he
 obtain ⟨i,c,hci,hx⟩ := hc.get (x := a) hA.1 (by omega)
 obtain ⟨j,d,hdj,hy⟩ := hc.get (x := b) hB.1 (by omega)
 rw [e,numL_at hc h1 hci hx,numL_at hc h1 hdj hy] at he
 have hs := (hc.same hci hdj hx hy).1 (by omega)
 have l1 := lev_path hi h.low hs.1 hA.1 hA.2
 have l2 := lev_path hi h.low hs.2 hB.1 hB.2
 exact h.part r hr hd a ha b hb (by omega)
theorem cyc_free {p : GProg} (hi : ProgIs p) {r1 r2 r3 : GRule} (h1 : r1 ∈ p.rules) (h2 : r2 ∈ p.rules) (h3 : r3 ∈ p.rules) (hd : djB r1 = true) {a b : Int} (ha : a ∈ r1.head) (hb : b ∈ r1.head) (hab : a ≠ b) (ha0 : 0 < a) (hb0 : 0 < b)
  (e1 : a ∈ r2.head) (e2 : b ∈ r2.body) (e3 : b ∈ r3.head) (e4 : a ∈ r3.body) : freeB p = false := by
 cases hf : freeB p with
 | false => rfl
 | true =>
  have h := free_lev hi hf
  have l1 := h.low r2 h2 a e1 b e2 hb0
  have l2 := h.low r3 h3 b e3 a e4 ha0
  exact absurd (h.part r1 h1 hd a ha b hb (by omega)) hab
end Go.Proofs.YtceokdbcglbclaaGreat
namespace Go.Proofs.YtceokdbcglbclaaGreat
theorem lfF_pair (f : GRule → Bool) : ∀ (rs : List GRule) (n : Int),(lfF f rs n).Pairwise (· < ·)
 | [],_ => List.Pairwise.nil
 | r :: t,n => by
  unfold lfF
  rw [List.pairwise_append]
  refine ⟨by split <;> simp,lfF_pair f t _,fun a ha b hb => ?_⟩
  split at ha
  ·rename_i hc
   rw [Bool.and_eq_true] at hc
   rw [List.mem_singleton] at ha
   have h1 : sfN r = 1 := by unfold sfN; rw [hc.1]; rfl
   have h2 := lift_gt b hb
   omega
  ·cases ha
theorem inc_make {n : Int} {xs : List Int} (h1 : ∀ x ∈ xs,1 ≤ x ∧ x ≤ n) (h2 : xs.Pairwise (· < ·)) : incB n xs = true := by
 unfold incB ordB
 rw [Bool.and_eq_true,ordGo_iff,List.all_eq_true]
 refine ⟨⟨fun x hx => litB_iff.2 (by have := h1 x hx; omega),?_,fun y e => by cases e⟩,fun x hx => decide_eq_true (by have := h1 x hx; omega)⟩
 refine (List.Pairwise.and_mem.1 h2).imp ?_
 rintro a b ⟨ha,hb,hab⟩
 have p1 := h1 a ha
 have p2 := h1 b hb
 unfold litLt absI
 simp only [Bool.or_eq_true,Bool.and_eq_true,decide_eq_true_eq]
 omega
theorem sfP_n (p : GProg) : (sfP p).n = p.n + (sfC p.rules : Int) := rfl
theorem lift_inc {p : GProg} (hi : ProgIs p) {m : List Int} (hm : incB p.n m = true) : incB (sfP p).n (liftL p m) = true := by
 have h0 := (namedB_n hi.named).1
 have hmm := inc_mem hm
 rw [sfP_n]
 refine inc_make (fun x hx => ?_) ?_
 ·rcases List.mem_append.1 hx with h | h
  ·have := hmm x h; omega
  ·obtain ⟨k,r,hk,hd,_,rfl⟩ := lfF_mem.1 h
   have := sfA_gt p.rules p.n k
   have := sfA_le (n := p.n) hk hd
   omega
 ·unfold liftL
  rw [List.pairwise_append]
  exact ⟨inc_pair hm,lfF_pair _ _ _,fun a ha b hb => by have := (hmm a ha).2; have := lift_gt b hb; omega⟩
theorem sf_rules (p : GProg) : (sfP p).rules = (sfL p.rules p.n).map normR := by
 show [] ++ _ = _
 rw [List.nil_append]
theorem lift_agr {p : GProg} (m : List Int) : Agr p.n m (liftL p m) := agr_add lift_gt
theorem lift_lf {p : GProg} {m : List Int} (hm : incB p.n m = true) : LfOk p (fun r => bodyB r m) (liftL p m) := lift_ok fun a ha => (inc_mem hm a ha).2
theorem lift_model {p : GProg} (hi : ProgIs p) {m : List Int} (hm : incB p.n m = true) : modelB (sfP p) (liftL p m) = modelB p m := by
 have h := sf_sat hi (lift_agr m) (lift_lf hm)
 unfold modelB
 rw [sf_rules,Bool.eq_iff_iff,List.all_eq_true,List.all_eq_true,← h]
 constructor
 ·intro hq z hz
  have := hq _ (List.mem_map_of_mem hz)
  rwa [satB_norm] at this
 ·intro hq z hz
  obtain ⟨y,hy,rfl⟩ := List.mem_map.1 hz
  rw [satB_norm]; exact hq y hy
end Go.Proofs.YtceokdbcglbclaaGreat
namespace Go.Proofs.YtceokdbcglbclaaGreat
def wrL22 : List GRule := [⟨false,[1,2],false,0,[],[]⟩,⟨false,[1],false,0,[2],[]⟩,⟨true,[2],false,0,[1],[]⟩]
theorem wr_pre {n : Int} (h2 : 2 ≤ n) (h4 : n ≤ 4000) : ∀ r ∈ wrL22,PreRule r n := fun r hr => by
 simp only [wrL22,List.mem_cons,List.not_mem_nil,or_false] at hr
 rcases hr with rfl | rfl | rfl
 ·exact ⟨by omega,h4,fun a ha => by simp at ha; omega,by simp,by simp,fun _ => ⟨rfl,rfl⟩,by simp,by simp,by simp,by simp,by simp,by simp⟩
 ·exact ⟨by omega,h4,fun a ha => by simp at ha; omega,by simp,fun x hx => by simp at hx; subst hx; exact litB_iff.2 (by omega),fun _ => ⟨rfl,rfl⟩,by simp,by simp,by simp,by simp,by simp,by simp⟩
 ·exact ⟨by omega,h4,fun a ha => by simp at ha; omega,by simp,fun x hx => by simp at hx; subst hx; exact litB_iff.2 (by omega),fun _ => ⟨rfl,rfl⟩,by simp,by simp,by simp,by simp,by simp,by simp⟩
theorem wr_is {p : GProg} (hi : ProgIs p) (h2 : 2 ≤ p.n) (hl : p.rules.length ≤ 1000) : ProgIs (extP p 0 wrL22) := by
 have h4 := (namedB_n hi.named).2
 refine extP_is hi (by simpa using h4) (by simp [wrL22]; omega) fun r hr => ?_
 have := norm_is (wr_pre h2 h4 r hr)
 simpa using this
theorem wr_cyc {p : GProg} (hi : ProgIs p) (h2 : 2 ≤ p.n) (hl : p.rules.length ≤ 1000) : freeB (extP p 0 wrL22) = false := by
 have hm : ∀ r ∈ wrL22.map normR,r ∈ (extP p 0 wrL22).rules := fun r hr => List.mem_append.2 (.inr hr)
 have e : wrL22.map normR = wrL22 := by decide
 rw [e] at hm
 exact cyc_free (wr_is hi h2 hl) (r1 := ⟨false,[1,2],false,0,[],[]⟩) (r2 := ⟨false,[1],false,0,[2],[]⟩) (r3 := ⟨true,[2],false,0,[1],[]⟩) (hm _ (by simp [wrL22])) (hm _ (by simp [wrL22])) (hm _ (by simp [wrL22])) (by decide) (a := 1) (b := 2) (by simp) (by simp) (by decide) (by decide) (by decide) (by simp) (by simp) (by simp) (by simp)
theorem wr_se {p : GProg} (hi : ProgIs p) (h2 : 2 ≤ p.n) (hl : p.rules.length ≤ 1000) : shiftE (freeB (extP p 0 wrL22)) (extP p 0 wrL22) = 220 := by
 unfold shiftE
 rw [if_neg (by rw [ex_validE (wr_is hi h2 hl)]; simp),wr_cyc hi h2 hl]; rfl
theorem wr_n1 {p : GProg} (hi : ProgIs p) : shiftE (freeB { p with n := p.n + 1 }) { p with n := p.n + 1 } = 170 := by
 unfold shiftE
 rw [wr_case0 hi]; rfl
theorem wr_inc (n : Int) : incB n [n + 1] = false := by
 cases h : incB n [n + 1] with
 | false => rfl
 | true => have := inc_mem h (n + 1) (by simp); omega
end Go.Proofs.YtceokdbcglbclaaGreat

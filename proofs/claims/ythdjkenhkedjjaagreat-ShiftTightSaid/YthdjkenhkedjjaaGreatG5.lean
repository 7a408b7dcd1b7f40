/- Several texts in one: Mdl, Sbs, Mon, Sms, St0, St1, Cls, St2, St3, St5. -/
import Derived.Test.YthdjkenhkedjjaaGreatGZ
import Derived.Test.YthdjkenhkedjjaaGreatG4
import Derived.Test.YthdjkenhkedjjaaGreatG2
import Derived.Laws.BitsAllLaws
import Derived.Test.YthdjkenhkedjjaaGreatRd7
namespace Go.Proofs.YthdjkenhkedjjaaGreat
theorem litLt_trans {a b c : Int} (h1 : litLt a b = true) (h2 : litLt b c = true) : litLt a c = true := by
 unfold litLt at *
 simp only [Bool.or_eq_true,Bool.and_eq_true,decide_eq_true_eq] at *
 omega
theorem ordGo_iff (n : Int) : ∀ (xs : List Int) (p : Option Int),ordGo n p xs = true ↔ (∀ x ∈ xs,litB x n = true) ∧ xs.Pairwise (fun a b => litLt a b = true) ∧ (∀ y,p = some y → ∀ x ∈ xs,litLt y x = true)
 | [],p => by simp [ordGo]
 | x :: r,p => by
  rw [ordGo_cons,Bool.and_eq_true,Bool.and_eq_true,ordGo_iff n r (some x),List.pairwise_cons]
  constructor
  ·rintro ⟨⟨h1,h2⟩,h3,h4,h5⟩
   refine ⟨fun y hy => ?_,⟨h5 x rfl,h4⟩,fun y hy z hz => ?_⟩
   ·rcases List.mem_cons.1 hy with rfl | hy
    ·exact h1
    ·exact h3 y hy
   ·subst hy
    rcases List.mem_cons.1 hz with rfl | hz
    ·exact h2
    ·exact litLt_trans h2 (h5 x rfl z hz)
  ·rintro ⟨h1,⟨h2,h3⟩,h4⟩
   refine ⟨⟨h1 x (by simp),?_⟩,fun y hy => h1 y (by simp [hy]),h3,fun y hy => by cases hy; exact h2⟩
   cases p with
   | none => rfl
   | some y => exact h4 y rfl x (by simp)
theorem wtGo_of : ∀ (xs : List Int) (s : Int),(∀ x ∈ xs,1 ≤ x) → s + xs.sum ≤ 1048576 → wtGo s xs = true
 | [],_,_,_ => rfl
 | x :: r,s,h1,h2 => by
  have hx := h1 x (by simp)
  have hr := sum_nonneg (l := r) fun z hz => by have := h1 z (by simp [hz]); omega
  rw [List.sum_cons] at h2
  simp only [wtGo,Bool.and_eq_true,decide_eq_true_eq]
  refine ⟨⟨hx,by omega⟩,wtGo_of r (s + x) (fun z hz => h1 z (by simp [hz])) (by omega)⟩
def withP (n : Int) (rs : List GRule) : GProg := ⟨n,List.replicate n.toNat ByteArray.empty,[],rs,[]⟩
end Go.Proofs.YthdjkenhkedjjaaGreat
namespace Go.Proofs.YthdjkenhkedjjaaGreat
open Go.RowKit
end Go.Proofs.YthdjkenhkedjjaaGreat
namespace Go.Proofs.YthdjkenhkedjjaaGreat
open Go.RowKit
end Go.Proofs.YthdjkenhkedjjaaGreat
namespace Go.Proofs.YthdjkenhkedjjaaGreat
open Go.RowKit
theorem bad_of {r : GRule} (h1 : r.body.length ≤ 8000) (h2 : ∀ x ∈ r.body,x ≠ 0 ∧ -9223372036854775808 < x) (h3 : r.sum = true → r.w.length = r.body.length) : badB r = false := by
 unfold badB
 have e1 : decide ((0 : Int) ∈ r.body) = false := decide_eq_false fun h => (h2 0 h).1 rfl
 have e2 : decide ((-9223372036854775808 : Int) ∈ r.body) = false := decide_eq_false fun h => by have := (h2 _ h).2; omega
 rw [e1,e2,decide_eq_false (show ¬ 8000 < r.body.length by omega)]
 cases hs : r.sum with
 | false => rfl
 | true => simp [h3 hs]
theorem wOut_ok {l : List Int} (h : ∀ y ∈ l,0 ≤ y ∧ y ≤ 1048576) : l.any wOut = false := by
 rw [List.any_eq_false]
 intro y hy
 have := h y hy
 simp [wOut]; omega
structure SumIs (r : GRule) : Prop where
 len : r.body.length ≤ 36
 lit : ∀ x ∈ r.body,x ≠ 0 ∧ -4000 ≤ x ∧ x ≤ 4000
 wlen : r.sum = true → r.w.length = r.body.length
 w0 : r.sum = true → ∀ y ∈ r.w,0 ≤ y ∧ y ≤ 1048576
 b0 : r.sum = true → 0 ≤ r.bound ∧ r.bound ≤ 1048576
theorem SumIs.bodyC {r : GRule} (h : SumIs r) (m : List Int) : bodyC r m = bodyB r m := by
 unfold Proofs.YthdjkenhkedjjaaGreat.bodyC
 rw [bad_of (by have := h.len; omega) (fun x hx => by have := h.lit x hx; omega) h.wlen]
 cases hs : r.sum with
 | false => simp
 | true => simp [wOut_ok (h.w0 hs)]
theorem mem_le_sum : ∀ {l : List Int},(∀ x ∈ l,1 ≤ x) → ∀ {y : Int},y ∈ l → y ≤ l.sum
 | [],_,y,hy => by simp at hy
 | z :: r,h,y,hy => by
  have h0 : 0 ≤ r.sum := sum_nonneg fun x hx => by have := h x (by simp [hx]); omega
  have hz := h z (by simp)
  rcases List.mem_cons.1 hy with rfl | hy
  ·simp; omega
  ·have := mem_le_sum (fun x hx => h x (by simp [hx])) hy
   simp; omega
end Go.Proofs.YthdjkenhkedjjaaGreat
namespace Go.Proofs.YthdjkenhkedjjaaGreat
def pickL : List Int → Nat → List Int
 | [],_ => []
 | a :: t,b => if b % 2 = 1 then a :: pickL t (b / 2) else pickL t (b / 2)
def subsL (m : List Int) : List (List Int) := (List.range (2 ^ m.length)).map (pickL m)
def satL (rs : List GRule) (m : List Int) : Bool := rs.all (fun r => satB r m)
def minL (rs : List GRule) (m : List Int) : Bool := match (subsL m).find? (satL rs) with
 | some s => decide (s.length = m.length)
 | none => false
def atomsL (n : Nat) : List Int := (List.range n).map fun (i : Nat) => (i : Int) + 1
theorem pickL_sub : ∀ (m : List Int) (b : Nat),(pickL m b).Sublist m
 | [],_ => List.Sublist.refl _
 | a :: t,b => by
  have ih := pickL_sub t (b / 2)
  unfold pickL
  split
  ·exact ih.cons_cons a
  ·exact ih.cons a
theorem pickL_all : ∀ (m : List Int),pickL m (2 ^ m.length - 1) = m
 | [] => rfl
 | a :: t => by
  have ih := pickL_all t
  have h0 : 0 < 2 ^ t.length := Nat.pos_of_ne_zero (by simp)
  have e : 2 ^ (a :: t).length - 1 = 2 * (2 ^ t.length - 1) + 1 := by rw [List.length_cons,Nat.pow_succ]; omega
  unfold pickL
  rw [e,if_pos (by omega),show (2 * (2 ^ t.length - 1) + 1) / 2 = 2 ^ t.length - 1 by omega,ih]
theorem pickL_len : ∀ (m : List Int) (b : Nat),b < 2 ^ m.length → (pickL m b).length = m.length → b = 2 ^ m.length - 1
 | [],b,h,_ => by simp at h; simp [h]
 | a :: t,b,h,hl => by
  have h0 : 0 < 2 ^ t.length := Nat.pos_of_ne_zero (by simp)
  rw [List.length_cons,Nat.pow_succ] at h
  have hle := (pickL_sub t (b / 2)).length_le
  unfold pickL at hl
  rw [List.length_cons,Nat.pow_succ]
  split at hl
  ·have := pickL_len t (b / 2) (by omega) (by simpa using hl)
   omega
  ·rw [List.length_cons] at hl; omega
theorem sub_pick : ∀ {m s : List Int},s.Sublist m → ∃ b,b < 2 ^ m.length ∧ pickL m b = s
 | [],s,h => by
  have : s = [] := List.sublist_nil.1 h
  exact ⟨0,by simp,by rw [this]; rfl⟩
 | a :: t,s,h => by
  rcases List.sublist_cons_iff.1 h with h1 | ⟨s',rfl,h1⟩
  ·obtain ⟨b,hb,e⟩ := sub_pick h1
   exact ⟨2 * b,by rw [List.length_cons,Nat.pow_succ]; omega,by unfold pickL; rw [if_neg (by omega),show 2 * b / 2 = b by omega,e]⟩
  ·obtain ⟨b,hb,e⟩ := sub_pick h1
   exact ⟨2 * b + 1,by rw [List.length_cons,Nat.pow_succ]; omega,by unfold pickL; rw [if_pos (by omega),show (2 * b + 1) / 2 = b by omega,e]⟩
theorem minL_iff (rs : List GRule) (m : List Int) : minL rs m = true ↔ satL rs m = true ∧ ∀ s : List Int,s.Sublist m → satL rs s = true → s = m := by
 have h0 : 0 < 2 ^ m.length := Nat.pos_of_ne_zero (by simp)
 have hmem : m ∈ subsL m := List.mem_map.2 ⟨2 ^ m.length - 1,List.mem_range.2 (by omega),pickL_all m⟩
 unfold minL
 constructor
 ·intro h
  cases hf : (subsL m).find? (satL rs) with
  | none => rw [hf] at h; cases h
  | some s =>
   rw [hf] at h
   have hl : s.length = m.length := by simpa using h
   obtain ⟨hs,pr,bs,e,hbef⟩ := List.find?_eq_some_iff_append.1 hf
   have hsm : s ∈ subsL m := by rw [e]; simp
   obtain ⟨b,hb,rfl⟩ := List.mem_map.1 hsm
   have hb2 := pickL_len m b (List.mem_range.1 hb) hl
   have hsm2 : pickL m b = m := by rw [hb2]; exact pickL_all m
   refine ⟨by rw [← hsm2]; exact hs,fun s' hs' hsat => ?_⟩
   obtain ⟨b',hb',rfl⟩ := sub_pick hs'
   by_cases hlast : b' = 2 ^ m.length - 1
   ·rw [hlast]; exact pickL_all m
   ·exfalso
    have hin : pickL m b' ∈ subsL m := List.mem_map.2 ⟨b',List.mem_range.2 hb',rfl⟩
    rw [e] at hin
    rcases List.mem_append.1 hin with h1 | h1
    ·have := hbef _ h1
     rw [hsat] at this; cases this
    ·have hlen : (subsL m).length = 2 ^ m.length := by simp [subsL]
     have hlast2 : (subsL m)[2 ^ m.length - 1]? = some m := by
      unfold subsL; rw [List.getElem?_map,List.getElem?_range (by omega)]; simp [pickL_all]
     rcases List.mem_cons.1 h1 with h2 | h2
     ·have h3 := pickL_len m b' hb' (by rw [h2]; exact hl)
      exact hlast h3
     ·-- behind s nothing comes: s is the last
      have hs3 : ∀ i,(subsL m)[i]? = some (pickL m b) → i = 2 ^ m.length - 1 := fun i hi => by
       unfold subsL at hi
       rw [List.getElem?_map,Option.map_eq_some_iff] at hi
       obtain ⟨x,hx,hx2⟩ := hi
       have hxl := List.getElem?_eq_some_iff.1 hx
       obtain ⟨hlt,hxe⟩ := hxl
       rw [List.length_range] at hlt
       rw [List.getElem_range] at hxe
       subst hxe
       exact pickL_len m i hlt (by rw [hx2]; exact hl)
      have h4 := hs3 pr.length (by rw [e]; simp)
      have h5 : pr.length + 1 + bs.length = 2 ^ m.length := by rw [← hlen,e]; simp; omega
      have : bs = [] := List.eq_nil_of_length_eq_zero (by omega)
      rw [this] at h2; cases h2
 ·rintro ⟨h1,h2⟩
  cases hf : (subsL m).find? (satL rs) with
  | none =>
   have := List.find?_eq_none.1 hf m hmem
   exact absurd h1 this
  | some s =>
   have hs := List.find?_some hf
   obtain ⟨b,hb,rfl⟩ := List.mem_map.1 (List.mem_of_find?_eq_some hf)
   have := h2 _ (pickL_sub m b) hs
   simp [this]
end Go.Proofs.YthdjkenhkedjjaaGreat
namespace Go.Proofs.YthdjkenhkedjjaaGreat
theorem stage_congr {rs rs' : List GRule} (n : Nat) (h : ∀ m a,derivB rs m a = derivB rs' m a) : ∀ k,stageF rs n k = stageF rs' n k
 | 0 => rfl
 | k + 1 => by
  have ih := stage_congr n h k
  unfold stageF
  rw [ih]
  simp only [h]
theorem least_congr {rs rs' : List GRule} (n : Nat) (h : ∀ m a,derivB rs m a = derivB rs' m a) : leastL rs n = leastL rs' n := by
 unfold leastL; rw [stage_congr n h]
theorem deriv_append (rs ts : List GRule) (m : List Int) (a : Int) : derivB (rs ++ ts) m a = (derivB rs m a || derivB ts m a) := by unfold derivB; rw [List.any_append]
theorem satL_append (rs ts : List GRule) (m : List Int) : satL (rs ++ ts) m = (satL rs m && satL ts m) := by unfold satL; rw [List.all_append]
structure Idle (ts : List GRule) (m : List Int) : Prop where
 der : ∀ b a,derivB ts b a = false
 sat : ∀ s : List Int,s.Sublist m → satL ts s = true
theorem Idle.least {ts : List GRule} {m : List Int} (h : Idle ts m) (rs : List GRule) (n : Nat) : leastL (rs ++ ts) n = leastL rs n :=
 least_congr n fun b a => by rw [deriv_append,h.der,Bool.or_false]
theorem Idle.min {ts : List GRule} {m : List Int} (h : Idle ts m) (rs : List GRule) : minL (rs ++ ts) m = minL rs m := by
 rw [Bool.eq_iff_iff,minL_iff,minL_iff]
 constructor
 ·rintro ⟨h1,h2⟩
  rw [satL_append,Bool.and_eq_true] at h1
  exact ⟨h1.1,fun s hs hsat => h2 s hs (by rw [satL_append,hsat,h.sat s hs]; rfl)⟩
 ·rintro ⟨h1,h2⟩
  refine ⟨by rw [satL_append,h1,h.sat m (List.Sublist.refl m)]; rfl,fun s hs hsat => ?_⟩
  rw [satL_append,Bool.and_eq_true] at hsat
  exact h2 s hs hsat.1
end Go.Proofs.YthdjkenhkedjjaaGreat
namespace Go.Proofs.YthdjkenhkedjjaaGreat
open Go.RowKit
def inB (a b : List Int) : Bool := a.all (fun x => decide (x ∈ b))
end Go.Proofs.YthdjkenhkedjjaaGreat
namespace Go.Proofs.YthdjkenhkedjjaaGreat
theorem inc_ext : ∀ {xs ys : List Int},xs.Pairwise (· < ·) → ys.Pairwise (· < ·) → (∀ x,x ∈ xs ↔ x ∈ ys) → xs = ys
 | [],[],_,_,_ => rfl
 | [],y :: r,_,_,h => by have := (h y).2 (by simp); cases this
 | x :: r,[],_,_,h => by have := (h x).1 (by simp); cases this
 | x :: r,y :: t,hx,hy,h => by
  rw [List.pairwise_cons] at hx hy
  have h1 := (h x).1 (by simp)
  have h2 := (h y).2 (by simp)
  have e : x = y := by
   rcases List.mem_cons.1 h1 with e | h3
   ·exact e
   ·rcases List.mem_cons.1 h2 with e | h4
    ·exact e.symm
    ·have := hx.1 y h4; have := hy.1 x h3; omega
  subst e
  congr 1
  refine inc_ext hx.2 hy.2 fun z => ?_
  constructor
  ·intro hz
   rcases List.mem_cons.1 ((h z).1 (by simp [hz])) with rfl | h5
   ·have := hx.1 _ hz; omega
   ·exact h5
  ·intro hz
   rcases List.mem_cons.1 ((h z).2 (by simp [hz])) with rfl | h5
   ·have := hy.1 _ hz; omega
   ·exact h5
theorem inc_pair {n : Int} {xs : List Int} (h : incB n xs = true) : xs.Pairwise (· < ·) := by
 have hm := inc_mem h
 have h0 : ordGo n none xs = true := by unfold incB ordB at h; simp only [Bool.and_eq_true] at h; exact h.1
 exact (ord_pair n xs none h0 (fun x hx => (by have := (hm x hx).1; omega)) (fun _ e => by cases e)).1
end Go.Proofs.YthdjkenhkedjjaaGreat
namespace Go.Proofs.YthdjkenhkedjjaaGreat
theorem atoms_pair (n : Nat) : (atomsL n).Pairwise (· < ·) := by
 unfold atomsL
 refine List.Pairwise.map _ (R := fun a b : Nat => a < b) (fun a b hab => by omega) List.pairwise_lt_range
theorem atoms_mem (n : Nat) (x : Int) : x ∈ atomsL n ↔ 1 ≤ x ∧ x ≤ (n : Int) := by
 unfold atomsL
 rw [List.mem_map]
 constructor
 ·rintro ⟨i,hi,rfl⟩
  have := List.mem_range.1 hi; omega
 ·rintro ⟨h1,h2⟩
  exact ⟨(x - 1).toNat,List.mem_range.2 (by omega),by omega⟩
end Go.Proofs.YthdjkenhkedjjaaGreat
namespace Go.Proofs.YthdjkenhkedjjaaGreat
def betB : List Int → List Int → Bool
 | a :: r,b :: t => if a = b then betB r t else decide (a < b)
 | _,_ => false
theorem betB_irrefl : ∀ a : List Int,betB a a = false
 | [] => rfl
 | a :: r => by unfold betB; rw [if_pos rfl]; exact betB_irrefl r
theorem betB_trans : ∀ a b c : List Int,betB a b = true → betB b c = true → a.length = b.length → b.length = c.length → betB a c = true
 | [],_,_,h,_,_,_ => by cases ‹List Int› <;> simp [betB] at h
 | _ :: _,[],_,h,_,_,_ => by simp [betB] at h
 | _ :: _,_ :: _,[],_,h,_,_ => by simp [betB] at h
 | a :: r,b :: t,c :: u,h1,h2,l1,l2 => by
  unfold betB at *
  by_cases e1 : a = b
  ·subst e1
   by_cases e2 : a = c
   ·subst e2; simp only [if_true] at *; exact betB_trans r t u h1 h2 (by simpa using l1) (by simpa using l2)
   ·rw [if_neg e2] at h2 ⊢; exact h2
  ·rw [if_neg e1] at h1
   by_cases e2 : b = c
   ·subst e2; rw [if_neg e1]; exact h1
   ·rw [if_neg e2] at h2
    simp at h1 h2
    rw [if_neg (by omega)]
    simp; omega
theorem betB_eq : ∀ a b : List Int,a.length = b.length → betB a b = false → betB b a = false → a = b
 | [],[],_,_,_ => rfl
 | [],_ :: _,h,_,_ => by simp at h
 | _ :: _,[],h,_,_ => by simp at h
 | a :: r,b :: t,l,h1,h2 => by
  unfold betB at h1 h2
  by_cases e : a = b
  ·subst e; simp only [if_true] at h1 h2; rw [betB_eq r t (by simpa using l) h1 h2]
  ·rw [if_neg e] at h1; rw [if_neg (fun x => e x.symm)] at h2
   simp at h1 h2; omega
def bestStep (c : List Int → List Int) (s : List (List Int) × List Int) (m : List Int) : List (List Int) × List Int :=
 let t := if betB (c m) s.2 then ([],c m) else s
 if betB t.2 (c m) then t else (t.1 ++ [m],t.2)
structure BestIs (c : List Int → List Int) (pre : List (List Int)) (s : List (List Int) × List Int) (k : Nat) : Prop where
 len : s.2.length = k
 least : ∀ m ∈ pre,betB (c m) s.2 = false
 out : s.1 = pre.filter fun m => decide (c m = s.2)
theorem BestIs.step {c : List Int → List Int} {k : Nat} (hk : ∀ m,(c m).length = k) {pre : List (List Int)} {s : List (List Int) × List Int} (h : BestIs c pre s k) (m : List Int) : BestIs c (pre ++ [m]) (bestStep c s m) k := by
 unfold bestStep
 cases hb : betB (c m) s.2 with
 | true =>
  simp only [if_true]
  rw [betB_irrefl]
  simp only [Bool.false_eq_true,if_false,List.nil_append]
  refine ⟨hk m,fun x hx => ?_,?_⟩
  ·rcases List.mem_append.1 hx with h1 | h1
   ·cases hxx : betB (c x) (c m) with
    | false => rfl
    | true =>
     have := betB_trans (c x) (c m) s.2 hxx hb (by rw [hk,hk]) (by rw [hk,h.len])
     rw [h.least x h1] at this; cases this
   ·simp at h1; subst h1; exact betB_irrefl _
  ·rw [List.filter_append]
   have e : (pre.filter fun x => decide (c x = c m)) = [] := by
    rw [List.filter_eq_nil_iff]
    intro x hx
    have := h.least x hx
    rw [decide_eq_true_eq]
    intro e
    rw [e,hb] at this; cases this
   rw [e]; simp
 | false =>
  simp only [Bool.false_eq_true,if_false]
  cases hb2 : betB s.2 (c m) with
  | true =>
   simp only [if_true]
   refine ⟨h.len,fun x hx => ?_,?_⟩
   ·rcases List.mem_append.1 hx with h1 | h1
    ·exact h.least x h1
    ·simp at h1; subst h1; exact hb
   ·rw [List.filter_append,← h.out]
    have : c m ≠ s.2 := fun e => by rw [e,betB_irrefl] at hb2; cases hb2
    simp [this]
  | false =>
   simp only [Bool.false_eq_true,if_false]
   have e := betB_eq (c m) s.2 (by rw [hk,h.len]) hb hb2
   refine ⟨h.len,fun x hx => ?_,?_⟩
   ·rcases List.mem_append.1 hx with h1 | h1
    ·exact h.least x h1
    ·simp at h1; subst h1; exact hb
   ·rw [List.filter_append,← h.out]
    simp [e]
end Go.Proofs.YthdjkenhkedjjaaGreat

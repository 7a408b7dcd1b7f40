/- Several texts in one: Dsn, Shq, Shs, Shl, Shm, Shz. -/
import Derived.Test.YthdjkenhkedjjaaGreatGU
import Derived.Test.YthdjkenhkedjjaaGreatGSa
import Derived.Test.YthdjkenhkedjjaaGreatGQ
import Derived.Test.YthdjkenhkedjjaaGreatGN
namespace Go.Proofs.YthdjkenhkedjjaaGreat
open Go.RowKit
theorem disN_rev : ∀ rs : List Int,disN rs.reverse ≤ rs.length ∧ (disN rs.reverse = rs.length ↔ rs.Nodup)
 | [] => ⟨by simp [disN,disL],by simp [disN,disL]⟩
 | a :: r => by
  obtain ⟨h1,h2⟩ := disN_rev r
  rw [List.reverse_cons,disN_snoc,List.length_cons,List.nodup_cons]
  split
  ·rename_i h
   rw [List.mem_reverse] at h
   refine ⟨by omega,?_⟩
   constructor
   ·intro q; omega
   ·intro q; exact absurd h q.1
  ·rename_i h
   rw [List.mem_reverse] at h
   refine ⟨by omega,?_⟩
   rw [show disN r.reverse + 1 = r.length + 1 ↔ disN r.reverse = r.length from by omega,h2]
   exact ⟨fun q => ⟨h,q⟩,fun q => q.2⟩
theorem disN_lt (ks : List Int) : disN ks < ks.length ↔ ¬ ks.Nodup := by
 obtain ⟨h1,h2⟩ := disN_rev ks.reverse
 rw [List.reverse_reverse,List.length_reverse] at h1 h2
 have h3 : ks.reverse.Nodup ↔ ks.Nodup := by unfold List.Nodup; rw [List.pairwise_reverse]; exact ⟨fun h => h.imp Ne.symm,fun h => h.imp Ne.symm⟩
 rw [h3] at h2
 rw [← h2]; omega
end Go.Proofs.YthdjkenhkedjjaaGreat
namespace Go.Proofs.YthdjkenhkedjjaaGreat
def sfP (p : GProg) : GProg := extP { p with rules := [] } (sfC p.rules) (sfL p.rules p.n)
theorem pre_of {r : GRule} {n N : Int} (h : RuleIs r n) (hn : n ≤ N) (hN : N ≤ 4000) : PreRule r N := by
 have h0 := h.n0
 have h1 := h.n1
 refine ⟨by omega,hN,fun a ha => ?_,h.choice,fun x hx => ex_litB (ord_lit h.body x hx) hn,h.plain,h.wlen,h.wt,h.b0,h.b1,?_,?_⟩
 ·have := inc_mem h.head a ha; omega
 ·have := inc_lenN h0 h.head; omega
 ·have := ordB_len h0 h.body; omega
theorem sf_pre1 {r x : GRule} {n N : Int} {k : Nat} (h : RuleIs r n) (hk : n + (k : Int) + (sfN r : Int) ≤ N) (hN : N ≤ 4000) (hx : x ∈ sfRule r (n + (k : Int) + 1)) : PreRule x N := by
 have h0 := h.n0
 have hn : n ≤ N := by omega
 have hp := pre_of h hn hN
 unfold sfRule at hx
 split at hx
 ·rename_i hd
  rcases List.mem_append.1 hx with h1 | h1
  ·unfold sfU at h1
   split at h1
   ·rename_i hs
    rw [List.mem_singleton] at h1
    subst h1
    have hk1 : sfN r = 1 := by unfold sfN; rw [hd,hs]; rfl
    refine ⟨hp.n0,hN,fun a ha => ?_,(by intro e; cases e),hp.body,(by intro e; cases e),fun _ => hp.wlen hs,fun _ => hp.wt hs,fun _ => hp.b0 hs,fun _ => hp.b1 hs,(by simp [sfX]),hp.bl⟩
    have : a = n + (k : Int) + 1 := by simpa [sfX] using ha
    omega
   ·cases h1
  ·obtain ⟨a,ha,rfl⟩ := List.mem_map.1 h1
   have hA := inc_mem h.head a ha
   refine ⟨hp.n0,hN,fun b hb => ?_,(by intro e; cases e),fun y hy => ?_,fun _ => ⟨rfl,rfl⟩,(by intro e; cases e),(by intro e; cases e),(by intro e; cases e),(by intro e; cases e),(by simp [sfH]),?_⟩
   ·have : b = a := by simpa [sfH] using hb
    omega
   ·rcases List.mem_append.1 hy with h2 | h2
    ·unfold sfB at h2
     split at h2
     ·rename_i hs
      have hk1 : sfN r = 1 := by unfold sfN; rw [hd,hs]; rfl
      rw [List.mem_singleton] at h2
      rw [litB_iff]; omega
     ·exact hp.body y h2
    ·obtain ⟨o,ho,_,rfl⟩ := sfO_mem.1 h2
     have := inc_mem h.head o ho
     rw [litB_iff]; omega
   ·show (sfB r _ ++ sfO r a).length ≤ 100000
    have h2 := inc_lenN h0 h.head
    have h3 := ordB_len h0 h.body
    have h4 := h.n1
    have h5 : (sfO r a).length ≤ r.head.length := by unfold sfO; rw [List.length_map]; exact List.length_filter_le _ _
    have h6 : (sfB r (n + (k : Int) + 1)).length ≤ r.body.length + 1 := by unfold sfB; split <;> simp
    rw [List.length_append]; omega
 ·rw [List.mem_singleton] at hx
  subst hx; exact hp
structure SfOk (p : GProg) : Prop where
 n : p.n + (sfC p.rules : Int) ≤ 4000
 l : (sfL p.rules p.n).length ≤ 40000
theorem sf_pre {p : GProg} (hi : ProgIs p) (h : p.n + (sfC p.rules : Int) ≤ 4000) : ∀ x ∈ sfL p.rules p.n,PreRule x (p.n + (sfC p.rules : Int)) := fun x hx => by
 obtain ⟨r,hr,k,hk,hx⟩ := sfL_mem hx
 exact sf_pre1 (hi.rules r hr) (by omega) h hx
theorem sf_is {p : GProg} (hi : ProgIs p) (h : SfOk p) : ProgIs (sfP p) := by
 have hb : ProgIs { p with rules := [] } := ⟨hi.named,by simp,by simp,hi.mins,hi.min⟩
 exact extP_is hb h.n (by simpa using h.l) fun x hx => norm_is (sf_pre hi h.n x hx)
theorem sf_small {p : GProg} (hi : ProgIs p) (hn : p.n ≤ 12) (hr : p.rules.length ≤ 20) : SfOk p := by
 have h0 := (namedB_n hi.named).1
 refine ⟨?_,?_⟩
 ·have := sfC_len p.rules; omega
 ·have h1 := sfL_len (N := 12) p.rules p.n fun r hm => by
   have := inc_lenN h0 (hi.rules r hm).head; omega
  have : (12 + 1) * p.rules.length ≤ 13 * 20 := Nat.mul_le_mul (by omega) hr
  omega
def shiftE (fr : Bool) (p : GProg) : Int := if validE p ≠ 0 then validE p else if fr then 0 else 220
end Go.Proofs.YthdjkenhkedjjaaGreat
namespace Go.Proofs.YthdjkenhkedjjaaGreat
def sfA (rs : List GRule) (n : Int) (k : Nat) : Int := n + (sfC (rs.take k) : Int) + 1
theorem sfL_at {z : GRule} {rs : List GRule} {n : Int} : z ∈ sfL rs n ↔ ∃ k r,rs[k]? = some r ∧ z ∈ sfRule r (sfA rs n k) := by
 induction rs generalizing n with
 | nil => simp [sfL]
 | cons r t ih =>
  unfold sfL
  rw [List.mem_append,ih]
  constructor
  ·rintro (h | ⟨k,q,hk,h⟩)
   ·exact ⟨0,r,rfl,by unfold sfA; simpa [sfC] using h⟩
   ·refine ⟨k + 1,q,by simpa using hk,?_⟩
    have e : sfA (r :: t) n (k + 1) = sfA t (n + (sfN r : Int)) k := by
     unfold sfA
     rw [List.take_succ_cons]
     have : sfC (r :: t.take k) = sfN r + sfC (t.take k) := rfl
     rw [this]; omega
    rw [e]; exact h
  ·rintro ⟨k,q,hk,h⟩
   cases k with
   | zero =>
    simp at hk; subst hk
    exact .inl (by unfold sfA at h; simpa [sfC] using h)
   | succ k =>
    refine .inr ⟨k,q,by simpa using hk,?_⟩
    have e : sfA (r :: t) n (k + 1) = sfA t (n + (sfN r : Int)) k := by
     unfold sfA
     rw [List.take_succ_cons]
     have : sfC (r :: t.take k) = sfN r + sfC (t.take k) := rfl
     rw [this]; omega
    rw [← e]; exact h
def lfF (f : GRule → Bool) : List GRule → Int → List Int
 | [],_ => []
 | r :: t,n => (if (djB r && r.sum) && f r then [n + 1] else []) ++ lfF f t (n + (sfN r : Int))
theorem lfF_snoc (f : GRule → Bool) : ∀ (rs : List GRule) (n : Int) (r : GRule),lfF f (rs ++ [r]) n = lfF f rs n ++ (if (djB r && r.sum) && f r then [n + (sfC rs : Int) + 1] else [])
 | [],n,r => by simp [lfF,sfC]
 | x :: t,n,r => by
  have h := lfF_snoc f t (n + (sfN x : Int)) r
  rw [List.cons_append]
  unfold lfF
  rw [h,List.append_assoc]
  have : sfC (x :: t) = sfN x + sfC t := rfl
  rw [this,show n + (sfN x : Int) + (sfC t : Int) + 1 = n + ((sfN x + sfC t : Nat) : Int) + 1 by omega]
theorem lfF_len (f : GRule → Bool) : ∀ (rs : List GRule) (n : Int),(lfF f rs n).length ≤ sfC rs
 | [],n => Nat.le_refl _
 | x :: t,n => by
  have h := lfF_len f t (n + (sfN x : Int))
  unfold lfF
  show _ ≤ sfN x + sfC t
  rw [List.length_append]
  have : (if ((djB x && x.sum) && f x) = true then [n + 1] else ([] : List Int)).length ≤ sfN x := by
   unfold sfN
   cases djB x && x.sum <;> simp
   split <;> simp
  omega
def liftL (p : GProg) (m : List Int) : List Int := m ++ lfF (fun r => bodyB r m) p.rules p.n
def Agr (n : Int) (m S : List Int) : Prop := ∀ a,a ≤ n → (a ∈ S ↔ a ∈ m)
theorem Agr.refl (n : Int) (m : List Int) : Agr n m m := fun _ _ => Iff.rfl
theorem sf_dj {r : GRule} (h : djB r = true) {x : Int} {z : GRule} : z ∈ sfRule r x ↔ (r.sum = true ∧ z = sfX r x) ∨ ∃ a ∈ r.head,z = sfH r x a := by
 unfold sfRule
 rw [if_pos h,List.mem_append,List.mem_map]
 unfold sfU
 constructor
 ·rintro (h1 | ⟨a,ha,rfl⟩)
  ·split at h1
   ·rename_i hs; rw [List.mem_singleton] at h1; exact .inl ⟨hs,h1⟩
   ·cases h1
  ·exact .inr ⟨a,ha,rfl⟩
 ·rintro (⟨h1,rfl⟩ | ⟨a,ha,rfl⟩)
  ·rw [if_pos h1]; exact .inl (by simp)
  ·exact .inr ⟨a,ha,rfl⟩
theorem sf_nd {r : GRule} (h : djB r = false) {x : Int} {z : GRule} : z ∈ sfRule r x ↔ z = r := by
 unfold sfRule
 rw [if_neg (by simp [h]),List.mem_singleton]
structure LevP (p : GProg) (lv : Int → Int) : Prop where
 low : ∀ r ∈ p.rules,∀ h ∈ r.head,∀ b ∈ r.body,0 < b → lv b ≤ lv h
 part : ∀ r ∈ p.rules,djB r = true → ∀ h ∈ r.head,∀ o ∈ r.head,lv h = lv o → h = o
end Go.Proofs.YthdjkenhkedjjaaGreat
namespace Go.Proofs.YthdjkenhkedjjaaGreat
def lvP (p : GProg) (a : Int) : Int := nthZ (numL p.n.toNat (compT (ofL p))) a
theorem inj_nodup {f : Int → Int} : ∀ {l : List Int},(l.map f).Nodup → ∀ a ∈ l,∀ b ∈ l,f a = f b → a = b
 | [],_,a,ha,_,_,_ => by cases ha
 | x :: t,h,a,ha,b,hb,e => by
  rw [List.map_cons,List.nodup_cons] at h
  rcases List.mem_cons.1 ha with rfl | ha2 <;> rcases List.mem_cons.1 hb with rfl | hb2
  ·rfl
  ·exact absurd (List.mem_map.2 ⟨b,hb2,e.symm⟩) h.1
  ·exact absurd (List.mem_map.2 ⟨a,ha2,e⟩) h.1
  ·exact inj_nodup h.2 a ha2 b hb2 e
theorem nodup_inj {f : Int → Int} : ∀ {l : List Int},l.Nodup → (∀ a ∈ l,∀ b ∈ l,f a = f b → a = b) → (l.map f).Nodup
 | [],_,_ => by simp
 | x :: t,h,hf => by
  rw [List.nodup_cons] at h
  rw [List.map_cons,List.nodup_cons]
  refine ⟨fun hm => ?_,nodup_inj h.2 fun a ha b hb => hf a (by simp [ha]) b (by simp [hb])⟩
  obtain ⟨b,hb,e⟩ := List.mem_map.1 hm
  have := hf b (by simp [hb]) x (by simp) e
  subst this; exact h.1 hb
theorem lev_low {p : GProg} (hi : ProgIs p) : ∀ r ∈ p.rules,∀ h ∈ r.head,∀ b ∈ r.body,0 < b → lvP p b ≤ lvP p h := fun r hr h hh b hb h0 => by
 have hn := namedB_n hi.named
 have hl := of_len p
 have hg := of_ok hi hn.1 hn.2
 have h1 : 1 ≤ (ofL p).length := by omega
 have hc := comp_ok hg h1
 have e : p.n.toNat = (ofL p).length - 1 := by omega
 have hhr := inc_mem (hi.rules r hr).head h hh
 have hed : b ∈ rowZ (ofL p) h := (of_edge hn.1 (by omega) hhr.2).2 ⟨r,hr,hh,hb,h0⟩
 obtain ⟨i,c,hci,hx⟩ := hc.get (x := h) hhr.1 (by omega)
 obtain ⟨j,hj,d,hdj,hbd⟩ := hc.cl i c hci h hx b hed
 unfold lvP
 rw [e,numL_at hc h1 hci hx,numL_at hc h1 hdj hbd]; omega
theorem free_dj (p : GProg) : freeB p = true ↔ ∀ r ∈ p.rules,djB r = true → (r.head.map (lvP p)).Nodup := by
 have hl : ∀ r : GRule,(r.head.map fun a => nthZ (numL p.n.toNat (compT (ofL p))) a) = r.head.map (lvP p) := fun r => rfl
 unfold freeB
 rw [Bool.not_eq_true',List.any_eq_false]
 constructor
 ·intro h r hr hd
  have h1 := h r hr
  unfold hfB at h1
  rw [dj_choice hd,hl] at h1
  have h2 := disN_lt (r.head.map (lvP p))
  rw [List.length_map] at h2
  apply Classical.byContradiction
  intro hn
  exact h1 (by simpa using h2.2 hn)
 ·intro h r hr hb
  unfold hfB at hb
  rw [hl] at hb
  simp only [Bool.and_eq_true,Bool.not_eq_true',decide_eq_true_eq] at hb
  have h2 := disN_lt (r.head.map (lvP p))
  rw [List.length_map] at h2
  have h3 := h2.1 hb.2
  by_cases hlen : 1 < r.head.length
  ·exact h3 (h r hr (by unfold djB; rw [hb.1,decide_eq_true hlen]; rfl))
  ·refine h3 ?_
   match hh : r.head,hlen with
   | [],_ => simp
   | [a],_ => simp
   | a :: b :: t,hlen => simp at hlen
theorem free_lev {p : GProg} (hi : ProgIs p) (hf : freeB p = true) : LevP p (lvP p) :=
 ⟨lev_low hi,fun r hr hd h hh o ho e => inj_nodup ((free_dj p).1 hf r hr hd) h hh o ho e⟩
theorem lev_path {p : GProg} (hi : ProgIs p) {lv : Int → Int} (hl : ∀ r ∈ p.rules,∀ h ∈ r.head,∀ b ∈ r.body,0 < b → lv b ≤ lv h) {a b : Int} (h : Rch (ofL p) a b) : 1 ≤ a → a ≤ p.n → lv b ≤ lv a := by
 have hn := namedB_n hi.named
 have hg := of_ok hi hn.1 hn.2
 have hlen := of_len p
 induction h with
 | refl a => intro _ _; exact Int.le_refl _
 | step hb _ ih =>
  intro h1 h2
  obtain ⟨r,hr,q1,q2,q3⟩ := (of_edge hn.1 (by omega) h2).1 hb
  have h3 := hl r hr _ q1 _ q2 q3
  have h4 := litB_iff.1 (ord_lit (hi.rules r hr).body _ q2)
  have := ih (by omega) (by omega)
  omega
theorem lev_free {p : GProg} (hi : ProgIs p) {lv : Int → Int} (h : LevP p lv) : freeB p = true := by
 have hn := namedB_n hi.named
 have hlen := of_len p
 have hg := of_ok hi hn.1 hn.2
 have h1 : 1 ≤ (ofL p).length := by omega
 have hc := comp_ok hg h1
 have e : p.n.toNat = (ofL p).length - 1 := by omega
 rw [free_dj]
 intro r hr hd
 have hrr := inc_mem (hi.rules r hr).head
 refine nodup_inj ((inc_pair (hi.rules r hr).head).imp fun hab => by omega) fun a ha b hb he => ?_
 have hA := hrr a ha
 have hB := hrr b hb
 unfold lvP at he
 obtain ⟨i,c,hci,hx⟩ := hc.get (x := a) hA.1 (by omega)
 obtain ⟨j,d,hdj,hy⟩ := hc.get (x := b) hB.1 (by omega)
 rw [e,numL_at hc h1 hci hx,numL_at hc h1 hdj hy] at he
 have hs := (hc.same hci hdj hx hy).1 (by omega)
 have l1 := lev_path hi h.low hs.1 hA.1 hA.2
 have l2 := lev_path hi h.low hs.2 hB.1 hB.2
 exact h.part r hr hd a ha b hb (by omega)
theorem cyc_free {p : GProg} (hi : ProgIs p) {r1 r2 r3 : GRule} (h1 : r1 ∈ p.rules) (h2 : r2 ∈ p.rules) (h3 : r3 ∈ p.rules) (hd : djB r1 = true) {a b : Int} (ha : a ∈ r1.head) (hb : b ∈ r1.head) (hab : a ≠ b) (ha0 : 0 < a) (hb0 : 0 < b)
  (e1 : a ∈ r2.head) (e2 : b ∈ r2.body) (e3 : b ∈ r3.head) (e4 : a ∈ r3.body) : freeB p = false := by
 cases hf : freeB p with
 | false => rfl
 | true =>
  have h := free_lev hi hf
  have l1 := h.low r2 h2 a e1 b e2 hb0
  have l2 := h.low r3 h3 b e3 a e4 ha0
  exact absurd (h.part r1 h1 hd a ha b hb (by omega)) hab
theorem norm_dj (r : GRule) (h : r.head.length ≤ 1 ∨ r.choice = true) : djB (normR r) = false := by
 unfold djB
 rcases h with h | h
 ·have : (normR r).head.length ≤ 1 := by
   show (litsOf r.head).length ≤ 1
   match hh : r.head,h with
   | [],_ => simp [litsOf]
   | [a],_ => simp [litsOf,insL]
   | a :: b :: t,h => simp at h
  rw [decide_eq_false (by omega),Bool.and_false]
 ·rw [show (normR r).choice = r.choice from rfl,h]; rfl
theorem sf_nodj (p : GProg) : ∀ r ∈ (sfP p).rules,djB r = false := fun r hr => by
 have hr : r ∈ [] ++ (sfL p.rules p.n).map normR := hr
 rw [List.nil_append] at hr
 obtain ⟨z,hz,rfl⟩ := List.mem_map.1 hr
 obtain ⟨k,q,hk,hz⟩ := sfL_at.1 hz
 cases hd : djB q with
 | true =>
  rcases (sf_dj hd).1 hz with ⟨_,rfl⟩ | ⟨a,_,rfl⟩
  ·exact norm_dj _ (.inl (by simp [sfX]))
  ·exact norm_dj _ (.inl (by simp [sfH]))
 | false =>
  rw [sf_nd hd] at hz
  subst hz
  refine norm_dj _ ?_
  unfold djB at hd
  cases hc : z.choice with
  | true => exact .inr rfl
  | false =>
   rw [hc] at hd
   simp at hd
   exact .inl (by omega)
end Go.Proofs.YthdjkenhkedjjaaGreat
namespace Go.Proofs.YthdjkenhkedjjaaGreat
theorem sfP_n (p : GProg) : (sfP p).n = p.n + (sfC p.rules : Int) := rfl
theorem sf_rules (p : GProg) : (sfP p).rules = (sfL p.rules p.n).map normR := by
 show [] ++ _ = _
 rw [List.nil_append]
end Go.Proofs.YthdjkenhkedjjaaGreat
namespace Go.Proofs.YthdjkenhkedjjaaGreat
end Go.Proofs.YthdjkenhkedjjaaGreat

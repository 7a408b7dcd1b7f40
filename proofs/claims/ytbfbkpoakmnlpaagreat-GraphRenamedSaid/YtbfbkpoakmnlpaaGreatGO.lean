/- Several texts in one: Tgp, Gpp, Lep. -/
import Derived.Test.YtbfbkpoakmnlpaaGreatHdp
import Derived.Test.YtbfbkpoakmnlpaaGreatGW
/- GraphTight, plain: cycles and walks. -/
namespace Go.Proofs.YtbfbkpoakmnlpaaGreat
open Go.RowKit
section
variable {g : List (List Int)}
theorem pth_wlk {fr : Int} : ∀ (j : Nat) {a : Int},Pth g fr j a → Wlk g j a fr
 | 0,_,h => h.elim
 | 1,_,h => ⟨_,h,rfl⟩
 | j + 2,_,⟨b,hb,_,h⟩ => ⟨b,hb,pth_wlk (j + 1) h⟩
theorem wlk_rch : ∀ (k : Nat) {a b : Int},Wlk g k a b → Rch g a b
 | 0,a,b,h => by
  have : a = b := h
  subst this; exact .refl _
 | k + 1,a,b,⟨c,hc,h⟩ => .step hc (wlk_rch k h)
theorem rch_wlk {a b : Int} (h : Rch g a b) : ∃ k,Wlk g k a b := by
 induction h with
 | refl a => exact ⟨0,rfl⟩
 | step h _ ih => obtain ⟨k,hk⟩ := ih; exact ⟨k + 1,_,h,hk⟩
end
end Go.Proofs.YtbfbkpoakmnlpaaGreat
/- GraphParts, plain: what the components of a program are. -/
namespace Go.Proofs.YtbfbkpoakmnlpaaGreat
open Go.RowKit
theorem nums_at {p : GProg} {a : Int} (h1 : 1 ≤ a) : nthZ (numsL p) (a - 1) = nthZ (numL p.n.toNat (compsL p)) a := by
 unfold numsL nthZ
 rw [List.getD_eq_getElem?_getD,List.getD_eq_getElem?_getD,List.getElem?_drop,show 1 + (a - 1).toNat = a.toNat from by omega]
theorem count_one : ∀ {l : List Int} {a : Int},l.Nodup → a ∈ l → l.count a = 1
 | b :: l,a,h,hm => by
  rw [List.nodup_cons] at h
  rw [List.count_cons]
  by_cases e : b = a
  ·subst e
   rw [List.count_eq_zero_of_not_mem h.1]; simp
  ·rcases List.mem_cons.1 hm with q | q
   ·exact absurd q.symm e
   ·rw [count_one h.2 q,if_neg (by simpa using e)]
theorem flat_nodup : ∀ {cs : List (List Int)},cs.Pairwise (fun c d => ∀ x ∈ c,x ∉ d) → (∀ c ∈ cs,c.Nodup) → cs.flatten.Nodup
 | [],_,_ => by simp
 | c :: cs,h,hn => by
  rw [List.pairwise_cons] at h
  rw [List.flatten_cons,List.nodup_append]
  refine ⟨hn c (List.mem_cons_self ..),flat_nodup h.2 (fun d hd => hn d (List.mem_cons_of_mem _ hd)),fun a ha b hb e => ?_⟩
  subst e
  obtain ⟨d,hd,hm⟩ := List.mem_flatten.1 hb
  exact h.1 d hd a ha hm
structure PartL (p : GProg) : Prop where
 len : ((numsL p).length : Int) = p.n
 ne : ∀ (i : Nat) c,(compsL p)[i]? = some c → c ≠ []
 rng : ∀ (i : Nat) c,(compsL p)[i]? = some c → ∀ (k : Nat) a,c[k]? = some a → 1 ≤ a ∧ a ≤ p.n ∧ nthZ (numsL p) (a - 1) = (i : Int)
 srt : ∀ (i : Nat) c,(compsL p)[i]? = some c → ∀ (k : Nat) a b,c[k]? = some b → c[k + 1]? = some a → b < a
 tog : ∀ a b : Int,1 ≤ a → a ≤ p.n → 1 ≤ b → b ≤ p.n → ((a = b ∨ (bitN (rchL p) a b = true ∧ bitN (rchL p) b a = true)) ↔ nthZ (numsL p) (a - 1) = nthZ (numsL p) (b - 1))
 ord : ∀ a b : Int,1 ≤ a → a ≤ p.n → 1 ≤ b → b ≤ p.n → bitN (rchL p) a b = true → nthZ (numsL p) (b - 1) ≤ nthZ (numsL p) (a - 1)
 once : ∀ a : Int,1 ≤ a → a ≤ p.n → (compsL p).flatten.count a = 1
 cons : ∀ (i : Nat) c d,(compsL p)[i]? = some c → (compsL p)[i + 1]? = some d → d.headD 0 < c.headD 0 → bitN (rchL p) (d.headD 0) (c.headD 0) = true
theorem parts_law {p : GProg} (hi : ProgIs p) : PartL p := by
 have h0 : 0 ≤ p.n := (namedB_n hi.named).1
 have hl := of_len p
 have hg := of_ok hi h0 (namedB_n hi.named).2
 have h1 : 1 ≤ (ofL p).length := by omega
 have hpt := comps_part hi
 have hc := hpt.ok
 have e : p.n.toNat = (ofL p).length - 1 := by omega
 have hat : ∀ {i : Nat} {c : List Int} {a : Int},(compsL p)[i]? = some c → a ∈ c → nthZ (numsL p) (a - 1) = (i : Int) := fun {i c a} h1' h2 => by
  have := hc.rng c (List.mem_of_getElem? h1') a h2
  rw [nums_at this.1,e]
  exact numL_at hc h1 h1' h2
 refine ⟨?_,fun i c h => (hc.inc c (List.mem_of_getElem? h)).1,fun i c h k a hk => ?_,fun i c h k a b hb ha => ?_,fun a b a1 a2 b1 b2 => ?_,fun a b a1 a2 b1 b2 hb => ?_,fun a a1 a2 => ?_,fun i c d hcc hd hlt => ?_⟩
 ·unfold numsL
  rw [List.length_drop,numL_len]; omega
 ·have hm := List.mem_of_getElem? hk
  have := hc.rng c (List.mem_of_getElem? h) a hm
  exact ⟨this.1,by omega,hat h hm⟩
 ·have hp := (hc.inc c (List.mem_of_getElem? h)).2
  rw [List.pairwise_iff_getElem] at hp
  obtain ⟨q1,e1⟩ := List.getElem?_eq_some_iff.1 hb
  obtain ⟨q2,e2⟩ := List.getElem?_eq_some_iff.1 ha
  have := hp k (k + 1) q1 q2 (by omega)
  omega
 ·obtain ⟨i,c,hci,hm⟩ := hc.get a1 (by omega)
  obtain ⟨j,d,hdj,hm'⟩ := hc.get b1 (by omega)
  rw [hat hci hm,hat hdj hm']
  have hs := hc.same hci hdj hm hm'
  rw [bit_ok hi (by omega) (by omega),bit_ok hi (by omega) (by omega)]
  rw [show ((i : Int) = (j : Int)) ↔ i = j from by omega,hs]
  constructor
  ·rintro (q | ⟨⟨x,q1,q2⟩,y,q3,q4⟩)
   ·subst q; exact ⟨.refl _,.refl _⟩
   ·exact ⟨.step q1 q2,.step q3 q4⟩
  ·intro q
   by_cases ne : a = b
   ·exact .inl ne
   ·exact .inr ⟨(rch_plus ne).1 q.1,(rch_plus (Ne.symm ne)).1 q.2⟩
 ·obtain ⟨i,c,hci,hm⟩ := hc.get a1 (by omega)
  obtain ⟨x,q1,q2⟩ := (bit_ok hi (by omega) (by omega)).1 hb
  obtain ⟨j,hj,d,hd,hm'⟩ := hc.path (Rch.step q1 q2) hci hm
  rw [hat hci hm,hat hd hm']
  omega
 ·obtain ⟨c,hcm,hm⟩ := hc.all a a1 (by omega)
  refine count_one (flat_nodup hc.dis fun c hc' => ?_) (List.mem_flatten.2 ⟨c,hcm,hm⟩)
  exact (hc.inc c hc').2.imp (fun {x y} q e => by omega)
 ·have hcm := List.mem_of_getElem? hcc
  have hdm := List.mem_of_getElem? hd
  have hch := head_mem (hc.inc c hcm).1
  have hdh := head_mem (hc.inc d hdm).1
  have r1 := hc.rng c hcm _ hch
  have r2 := hc.rng d hdm _ hdh
  rw [bit_ok hi (by omega) (by omega)]
  rcases hpt.cons i c d hcc hd with q | ⟨a,ha,b,hb,hab⟩
  ·omega
  ·refine (rch_plus (by omega)).1 ?_
   exact (hc.scc d hdm _ hdh a ha).trans (.step hab (hc.scc c hcm b hb _ hch))
end Go.Proofs.YtbfbkpoakmnlpaaGreat
/- GraphLess, plain: a rule less, and rules of heads and positive literals alone. -/
namespace Go.Proofs.YtbfbkpoakmnlpaaGreat
open Go.RowKit
section
variable {p : GProg} (hi : ProgIs p) (k : Nat)
include hi
theorem nums_same {a b : Int} (a1 : 1 ≤ a) (a2 : a ≤ p.n) (b1 : 1 ≤ b) (b2 : b ≤ p.n) : nthZ (numsL p) (a - 1) = nthZ (numsL p) (b - 1) ↔ Rch (ofL p) a b ∧ Rch (ofL p) b a := by
 have h0 : 0 ≤ p.n := (namedB_n hi.named).1
 have hl := of_len p
 have h1 : 1 ≤ (ofL p).length := by omega
 rw [nums_at a1,nums_at b1,show p.n.toNat = (ofL p).length - 1 by omega]
 exact at_same (comps_part hi).ok h1 a1 (by omega) b1 (by omega)
end
end Go.Proofs.YtbfbkpoakmnlpaaGreat

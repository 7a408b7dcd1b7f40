/- Several texts in one: Arp, Evl, Gey, Gex, Arn, Arl, Ard, Cyq. -/
import Derived.Test.YtbfbkpoakmnlpaaGreatGY
import Derived.Test.YtbfbkpoakmnlpaaGreatG4
import Derived.Test.YtbfbkpoakmnlpaaGreatRat
import Derived.Test.YtbfbkpoakmnlpaaGreatG1
import Derived.Test.YtbfbkpoakmnlpaaGreatG2
import Derived.Test.YtbfbkpoakmnlpaaGreatSrw
import Derived.Test.YtbfbkpoakmnlpaaGreatInv
import Derived.Deep.DeepCutAuto
import Derived.Laws.StructEq
import Derived.Test.YtbfbkpoakmnlpaaGreatNum
import Derived.Test.YtbfbkpoakmnlpaaGreatG3
import Derived.Test.YtbfbkpoakmnlpaaGreatGof
namespace Go.Proofs.YtbfbkpoakmnlpaaGreat
def intoL (g : List (List Int)) (fr b : Int) : List Int := if fr ≤ b then ((List.range g.length).map fun (i : Nat) => (i : Int)).filter fun a => decide (fr ≤ a) && decide (b ∈ rowZ g a) else []
def bAtom (k : Int) (s : List Int × List Int) (a : Int) : List Int × List Int := if nthZ s.1 a = 0 then (updZ s.1 a k,s.2 ++ [a]) else s
def bRow (into : Int → List Int) (k : Int) (s : List Int × List Int) (b : Int) : List Int × List Int := (into b).foldl (bAtom k) s
def bLevel (into : Int → List Int) (k : Int) (back now : List Int) : List Int × List Int := now.foldl (bRow into k) (back,[])
structure BS where
 k : Int
 back : List Int
 now : List Int
def bGo (fr most : Int) (s : BS) : Bool := decide (s.now ≠ []) && decide (s.k ≤ most) && decide (nthZ s.back fr = 0)
def bStep (into : Int → List Int) (s : BS) : BS := ⟨s.k + 1,(bLevel into s.k s.back s.now).1,(bLevel into s.k s.back s.now).2⟩
def Pth (g : List (List Int)) (fr : Int) : Nat → Int → Prop
 | 0,_ => False
 | 1,a => fr ∈ rowZ g a
 | j + 2,a => ∃ b ∈ rowZ g a,fr < b ∧ Pth g fr (j + 1) b
theorem bAtom_spec (k : Int) (hk : k ≠ 0) : ∀ (l : List Int) (s : List Int × List Int),(∀ a ∈ l,0 ≤ a ∧ a < (s.1.length : Int)) →
  (l.foldl (bAtom k) s).1.length = s.1.length ∧ (∀ x,0 ≤ x → nthZ (l.foldl (bAtom k) s).1 x = if nthZ s.1 x = 0 ∧ x ∈ l then k else nthZ s.1 x) ∧ (∀ x,x ∈ (l.foldl (bAtom k) s).2 ↔ x ∈ s.2 ∨ (x ∈ l ∧ nthZ s.1 x = 0))
 | [],s,_ => ⟨rfl,fun x _ => by simp,fun x => by simp⟩
 | a :: l,s,h => by
  have ha := h a (List.mem_cons_self ..)
  rw [List.foldl_cons]
  by_cases h0 : nthZ s.1 a = 0
  ·have e : bAtom k s a = (updZ s.1 a k,s.2 ++ [a]) := by unfold bAtom; rw [if_pos h0]
   rw [e]
   have hup : ∀ x,0 ≤ x → nthZ (updZ s.1 a k) x = if a = x then k else nthZ s.1 x := fun x hx => nthZ_upd _ _ _ _ ha.1 hx ha.2
   obtain ⟨i1,i2,i3⟩ := bAtom_spec k hk l (updZ s.1 a k,s.2 ++ [a]) (fun b hb => by rw [updZ_len]; exact h b (List.mem_cons_of_mem _ hb))
   refine ⟨by rw [i1,updZ_len],fun x hx => ?_,fun x => ?_⟩
   ·rw [i2 x hx]
    simp only [hup x hx]
    by_cases e2 : a = x
    ·subst e2; simp [hk,h0]
    ·have e3 : ¬ x = a := fun q => e2 q.symm
     simp [e2,e3]
   ·rw [i3 x]
    simp only [List.mem_append,List.mem_cons,List.not_mem_nil,or_false]
    constructor
    ·rintro ((q | q) | ⟨q1,q2⟩)
     ·exact .inl q
     ·subst q; exact .inr ⟨.inl rfl,h0⟩
     ·have hx0 : 0 ≤ x := (h x (List.mem_cons_of_mem _ q1)).1
      rw [hup x hx0] at q2
      by_cases e2 : a = x
      ·rw [if_pos e2] at q2; exact absurd q2 hk
      ·rw [if_neg e2] at q2; exact .inr ⟨.inr q1,q2⟩
    ·rintro (q | ⟨q1,q2⟩)
     ·exact .inl (.inl q)
     ·by_cases e2 : a = x
      ·exact .inl (.inr e2.symm)
      ·rcases q1 with q1 | q1
       ·exact absurd q1.symm e2
       ·have hx0 : 0 ≤ x := (h x (List.mem_cons_of_mem _ q1)).1
        exact .inr ⟨q1,by rw [hup x hx0,if_neg e2]; exact q2⟩
  ·have e : bAtom k s a = s := by unfold bAtom; rw [if_neg h0]
   rw [e]
   obtain ⟨i1,i2,i3⟩ := bAtom_spec k hk l s (fun b hb => h b (List.mem_cons_of_mem _ hb))
   refine ⟨i1,fun x hx => ?_,fun x => ?_⟩
   ·rw [i2 x hx]
    by_cases e2 : x = a
    ·subst e2; simp [h0]
    ·simp [e2]
   ·rw [i3 x]
    constructor
    ·rintro (q | ⟨q1,q2⟩)
     ·exact .inl q
     ·exact .inr ⟨List.mem_cons_of_mem _ q1,q2⟩
    ·rintro (q | ⟨q1,q2⟩)
     ·exact .inl q
     ·rcases List.mem_cons.1 q1 with q1 | q1
      ·subst q1; exact absurd q2 h0
      ·exact .inr ⟨q1,q2⟩
theorem bRow_spec (into : Int → List Int) (k : Int) (hk : k ≠ 0) (n : Nat) (hin : ∀ b,∀ a ∈ into b,0 ≤ a ∧ a < (n : Int)) : ∀ (now : List Int) (s : List Int × List Int),s.1.length = n →
  (now.foldl (bRow into k) s).1.length = n ∧ (∀ x,0 ≤ x → nthZ (now.foldl (bRow into k) s).1 x = if nthZ s.1 x = 0 ∧ ∃ b ∈ now,x ∈ into b then k else nthZ s.1 x) ∧
  (∀ x,x ∈ (now.foldl (bRow into k) s).2 ↔ x ∈ s.2 ∨ ((∃ b ∈ now,x ∈ into b) ∧ nthZ s.1 x = 0))
 | [],s,hl => ⟨hl,fun x _ => by simp,fun x => by simp⟩
 | b :: now,s,hl => by
  obtain ⟨a1,a2,a3⟩ := bAtom_spec k hk (into b) s (fun a ha => by rw [hl]; exact hin b a ha)
  rw [List.foldl_cons]
  have e : bRow into k s b = (into b).foldl (bAtom k) s := rfl
  rw [e]
  obtain ⟨i1,i2,i3⟩ := bRow_spec into k hk n hin now ((into b).foldl (bAtom k) s) (by rw [a1]; exact hl)
  refine ⟨i1,fun x hx => ?_,fun x => ?_⟩
  ·rw [i2 x hx,a2 x hx]
   by_cases h0 : nthZ s.1 x = 0
   ·by_cases h1 : x ∈ into b
    ·simp [h0,h1,hk]
    ·simp [h0,h1]
   ·simp [h0]
  ·rw [i3 x,a3 x]
   constructor
   ·rintro ((q | ⟨q1,q2⟩) | ⟨⟨c,hc,q1⟩,q2⟩)
    ·exact .inl q
    ·exact .inr ⟨⟨b,List.mem_cons_self ..,q1⟩,q2⟩
    ·have hx := (hin c x q1).1
     rw [a2 x hx] at q2
     by_cases h0 : nthZ s.1 x = 0
     ·exact .inr ⟨⟨c,List.mem_cons_of_mem _ hc,q1⟩,h0⟩
     ·rw [if_neg (fun q => h0 q.1)] at q2; exact absurd q2 h0
   ·rintro (q | ⟨⟨c,hc,q1⟩,q2⟩)
    ·exact .inl (.inl q)
    ·by_cases h1 : x ∈ into b
     ·exact .inl (.inr ⟨h1,q2⟩)
     ·rcases List.mem_cons.1 hc with hc | hc
      ·subst hc; exact absurd q1 h1
      ·have hx := (hin c x q1).1
       exact .inr ⟨⟨c,hc,q1⟩,by rw [a2 x hx,if_neg (fun q => h1 q.2)]; exact q2⟩
theorem into_mem {g : List (List Int)} {fr b a : Int} : a ∈ intoL g fr b ↔ fr ≤ b ∧ fr ≤ a ∧ 0 ≤ a ∧ a < (g.length : Int) ∧ b ∈ rowZ g a := by
 unfold intoL
 by_cases h : fr ≤ b
 ·rw [if_pos h,List.mem_filter,List.mem_map]
  constructor
  ·rintro ⟨⟨i,hi,rfl⟩,h2⟩
   have hi := List.mem_range.1 hi
   simp only [Bool.and_eq_true,decide_eq_true_eq] at h2
   exact ⟨h,h2.1,by omega,by omega,h2.2⟩
  ·rintro ⟨-,h2,h3,h4,h5⟩
   exact ⟨⟨a.toNat,List.mem_range.2 (by omega),by omega⟩,by simp [h2,h5]⟩
 ·rw [if_neg h]
  exact ⟨fun q => (by cases q),fun q => absurd q.1 h⟩
structure BInv (g : List (List Int)) (fr : Int) (s : BS) : Prop where
 k1 : 1 ≤ s.k
 len : s.back.length = g.length
 val : ∀ a,fr ≤ a → a < (g.length : Int) → ∀ j : Nat,1 ≤ j → (j : Int) < s.k → (nthZ s.back a = (j : Int) ↔ Pth g fr j a ∧ ∀ i : Nat,i < j → ¬ Pth g fr i a)
 rng : ∀ a,fr ≤ a → a < (g.length : Int) → 0 ≤ nthZ s.back a ∧ nthZ s.back a < s.k
 now : ∀ a,a ∈ s.now ↔ (s.k = 1 ∧ a = fr) ∨ (1 < s.k ∧ fr ≤ a ∧ a < (g.length : Int) ∧ nthZ s.back a = s.k - 1)
theorem pth_none {g : List (List Int)} {fr : Int} {s : BS} (h : BInv g fr s) {a : Int} (h1 : fr ≤ a) (h2 : a < (g.length : Int)) (h0 : nthZ s.back a = 0) : ∀ i : Nat,(i : Int) < s.k → ¬ Pth g fr i a := by
 intro i
 induction i using Nat.strongRecOn with
 | ind i ih =>
  intro hi hp
  by_cases hz : i = 0
  ·subst hz; exact hp
  ·have := (h.val a h1 h2 i (by omega) hi).2 ⟨hp,fun j hj => ih j hj (by omega)⟩
   omega
theorem bStep_ok {g : List (List Int)} (hg : GOk g) {fr : Int} (hf1 : 1 ≤ fr) (hf2 : fr < (g.length : Int)) {s : BS} (h : BInv g fr s) (h0 : nthZ s.back fr = 0) : BInv g fr (bStep (intoL g fr) s) := by
 have hk := h.k1
 obtain ⟨r1,r2,r3⟩ := bRow_spec (intoL g fr) s.k (by omega) g.length (fun b a ha => by have := into_mem.1 ha; exact ⟨this.2.2.1,this.2.2.2.1⟩) s.now (s.back,[]) h.len
 obtain ⟨kn,hkn⟩ : ∃ kn : Nat,s.k = (kn : Int) := ⟨s.k.toNat,by omega⟩
 -- the atoms that this round meets
 have meet : ∀ a,fr ≤ a → a < (g.length : Int) → ((nthZ s.back a = 0 ∧ ∃ b ∈ s.now,a ∈ intoL g fr b) ↔ Pth g fr kn a ∧ ∀ i : Nat,i < kn → ¬ Pth g fr i a) := fun a a1 a2 => by
  constructor
  ·rintro ⟨z,b,hb,hab⟩
   refine ⟨?_,fun i hi => pth_none h a1 a2 z i (by omega)⟩
   have hm := into_mem.1 hab
   rcases (h.now b).1 hb with ⟨q1,q2⟩ | ⟨q1,q2,q3,q4⟩
   ·have : kn = 1 := by omega
    subst this q2
    exact hm.2.2.2.2
   ·obtain ⟨j,rfl⟩ : ∃ j,kn = j + 2 := ⟨kn - 2,by omega⟩
    have hbf : b ≠ fr := fun e => by subst e; omega
    have := (h.val b q2 q3 (j + 1) (by omega) (by omega)).1 (by omega)
    exact ⟨b,hm.2.2.2.2,by omega,this.1⟩
  ·rintro ⟨hp,hmin⟩
   have z : nthZ s.back a = 0 := by
    have hr := h.rng a a1 a2
    refine Classical.byContradiction fun hne => ?_
    obtain ⟨j,hj⟩ : ∃ j : Nat,nthZ s.back a = (j : Int) := ⟨(nthZ s.back a).toNat,by omega⟩
    have := (h.val a a1 a2 j (by omega) (by omega)).1 hj
    exact hmin j (by omega) this.1
   refine ⟨z,?_⟩
   by_cases e1 : kn = 1
   ·subst e1
    exact ⟨fr,(h.now fr).2 (.inl ⟨by omega,rfl⟩),into_mem.2 ⟨Int.le_refl _,a1,by omega,a2,hp⟩⟩
   ·obtain ⟨j,rfl⟩ : ∃ j,kn = j + 2 := ⟨kn - 2,by omega⟩
    obtain ⟨b,hb,hbf,hpb⟩ := hp
    have hbe := hg.ent a b hb
    have hvb := (h.val b (by omega) hbe.2 (j + 1) (by omega) (by omega)).2 ⟨hpb,fun i hi hpi => by
     cases i with
     | zero => exact hpi
     | succ i => exact hmin (i + 2) (by omega) ⟨b,hb,hbf,hpi⟩⟩
    exact ⟨b,(h.now b).2 (.inr ⟨by omega,by omega,hbe.2,by omega⟩),into_mem.2 ⟨by omega,a1,by omega,a2,hb⟩⟩
 have val : ∀ x,fr ≤ x → x < (g.length : Int) → nthZ (bLevel (intoL g fr) s.k s.back s.now).1 x = if nthZ s.back x = 0 ∧ ∃ b ∈ s.now,x ∈ intoL g fr b then s.k else nthZ s.back x := fun x x1 _ => r2 x (by omega)
 refine ⟨by show 1 ≤ s.k + 1; omega,r1,fun a a1 a2 j j1 j2 => ?_,fun a a1 a2 => ?_,fun a => ?_⟩
 ·have j2 : (j : Int) < s.k + 1 := j2
  show nthZ (bLevel (intoL g fr) s.k s.back s.now).1 a = (j : Int) ↔ _
  rw [val a a1 a2]
  have hr := h.rng a a1 a2
  by_cases e : (j : Int) = s.k
  ·have ej : j = kn := by omega
   subst ej
   rw [← meet a a1 a2]
   constructor
   ·intro q
    split at q
    ·rename_i hm; exact hm
    ·omega
   ·intro q
    rw [if_pos q]; omega
  ·rw [← h.val a a1 a2 j j1 (by omega)]
   constructor
   ·intro q
    split at q
    ·omega
    ·exact q
   ·intro q
    rw [if_neg (fun m => by omega)]; exact q
 ·show 0 ≤ nthZ (bLevel (intoL g fr) s.k s.back s.now).1 a ∧ nthZ (bLevel (intoL g fr) s.k s.back s.now).1 a < s.k + 1
  rw [val a a1 a2]
  have hr := h.rng a a1 a2
  split <;> omega
 ·show a ∈ (bLevel (intoL g fr) s.k s.back s.now).2 ↔ _
  rw [show a ∈ (bLevel (intoL g fr) s.k s.back s.now).2 ↔ a ∈ ([] : List Int) ∨ ((∃ b ∈ s.now,a ∈ intoL g fr b) ∧ nthZ s.back a = 0) from r3 a]
  constructor
  ·rintro (q | ⟨⟨b,hb,hab⟩,z⟩)
   ·cases q
   ·have hm := into_mem.1 hab
    refine .inr ⟨by show 1 < s.k + 1; omega,hm.2.1,hm.2.2.2.1,?_⟩
    show nthZ (bLevel (intoL g fr) s.k s.back s.now).1 a = s.k + 1 - 1
    rw [val a hm.2.1 hm.2.2.2.1,if_pos ⟨z,b,hb,hab⟩]; omega
  ·rintro (⟨q,-⟩ | ⟨_,a1,a2,q⟩)
   ·have q : s.k + 1 = 1 := q
    omega
   ·have q : nthZ (bLevel (intoL g fr) s.k s.back s.now).1 a = s.k + 1 - 1 := q
    rw [val a a1 a2] at q
    have hr := h.rng a a1 a2
    split at q
    ·rename_i hm; exact .inr ⟨hm.2,hm.1⟩
    ·omega
def bIter (into : Int → List Int) (fr most : Int) : Nat → BS → BS
 | 0,s => s
 | n + 1,s => if bGo fr most s = true then bIter into fr most n (bStep into s) else s
def bInit (n : Nat) (fr : Int) : BS := ⟨1,List.replicate n 0,[fr]⟩
theorem bInit_ok (g : List (List Int)) (fr : Int) : BInv g fr (bInit g.length fr) := by
 refine ⟨by show (1 : Int) ≤ 1; omega,by simp [bInit],fun a _ _ j j1 j2 => ?_,fun a _ _ => ?_,fun a => ?_⟩
 ·have j2 : (j : Int) < 1 := j2
  omega
 ·show 0 ≤ nthZ (List.replicate g.length 0) a ∧ nthZ (List.replicate g.length 0) a < 1
  rw [nth_rep]; omega
 ·show a ∈ [fr] ↔ (1 : Int) = 1 ∧ a = fr ∨ (1 : Int) < 1 ∧ _
  simp
theorem bIter_ok {g : List (List Int)} (hg : GOk g) {fr most : Int} (hf1 : 1 ≤ fr) (hf2 : fr < (g.length : Int)) : ∀ (n : Nat) {s : BS},BInv g fr s → BInv g fr (bIter (intoL g fr) fr most n s)
 | 0,s,h => h
 | n + 1,s,h => by
  rw [bIter]
  by_cases hb : bGo fr most s = true
  ·rw [if_pos hb]
   unfold bGo at hb
   simp only [Bool.and_eq_true,decide_eq_true_eq] at hb
   exact bIter_ok hg hf1 hf2 n (bStep_ok hg hf1 hf2 h hb.2)
  ·rw [if_neg hb]; exact h
theorem bIter_end (into : Int → List Int) (fr most : Int) : ∀ (n : Nat) {s : BS},(most + 1 - s.k).toNat ≤ n → bGo fr most (bIter into fr most n s) = false
 | 0,s,h => by
  rw [bIter]
  unfold bGo
  have : ¬ s.k ≤ most := by omega
  simp [this]
 | n + 1,s,h => by
  rw [bIter]
  by_cases hb : bGo fr most s = true
  ·rw [if_pos hb]
   have hk : (bStep into s).k = s.k + 1 := rfl
   exact bIter_end into fr most n (by rw [hk]; unfold bGo at hb; simp only [Bool.and_eq_true,decide_eq_true_eq] at hb; omega)
  ·rw [if_neg hb]; simpa using hb
def backT (g : List (List Int)) (fr most : Int) : List Int := (bIter (intoL g fr) fr most most.toNat (bInit g.length fr)).back
structure BackOk (g : List (List Int)) (fr most : Int) (back : List Int) : Prop where
 len : back.length = g.length
 nn : ∀ a,fr ≤ a → a < (g.length : Int) → 0 ≤ nthZ back a
 one : ∀ a,fr ≤ a → a < (g.length : Int) → nthZ back a = 1 → fr ∈ rowZ g a
 next : ∀ a,fr ≤ a → a < (g.length : Int) → 2 ≤ nthZ back a → ∃ b ∈ rowZ g a,fr < b ∧ nthZ back b = nthZ back a - 1
 yes : nthZ back fr ≠ 0 → ∃ j : Nat,nthZ back fr = (j : Int) ∧ (j : Int) ≤ most ∧ Pth g fr j fr ∧ ∀ i : Nat,i < j → ¬ Pth g fr i fr
 no : nthZ back fr = 0 → ∀ j : Nat,(j : Int) ≤ most → ¬ Pth g fr j fr
theorem back_ok {g : List (List Int)} (hg : GOk g) {fr most : Int} (hf1 : 1 ≤ fr) (hf2 : fr < (g.length : Int)) (hm : 0 ≤ most) : BackOk g fr most (backT g fr most) := by
 have h := bIter_ok (most := most) hg hf1 hf2 most.toNat (bInit_ok g fr)
 have he := bIter_end (intoL g fr) fr most most.toNat (s := bInit g.length fr) (by show (most + 1 - 1).toNat ≤ _; omega)
 have hk2 : ∀ (n : Nat) {s : BS},s.k ≤ most + 1 → (bIter (intoL g fr) fr most n s).k ≤ most + 1 := by
  intro n
  induction n with
  | zero => intro s h; exact h
  | succ n ih =>
   intro s h
   rw [bIter]
   by_cases hb : bGo fr most s = true
   ·rw [if_pos hb]
    refine ih ?_
    unfold bGo at hb
    simp only [Bool.and_eq_true,decide_eq_true_eq] at hb
    show s.k + 1 ≤ most + 1
    omega
   ·rw [if_neg hb]; exact h
 have hkm := hk2 most.toNat (s := bInit g.length fr) (by show (1 : Int) ≤ most + 1; omega)
 obtain ⟨s,hs⟩ : ∃ s,s = bIter (intoL g fr) fr most most.toNat (bInit g.length fr) := ⟨_,rfl⟩
 have hb : backT g fr most = s.back := by rw [hs]; rfl
 rw [← hs] at h he hkm
 rw [hb]
 have nat : ∀ a,fr ≤ a → a < (g.length : Int) → ∃ j : Nat,nthZ s.back a = (j : Int) := fun a a1 a2 => ⟨(nthZ s.back a).toNat,by have := h.rng a a1 a2; omega⟩
 refine ⟨h.len,fun a a1 a2 => (h.rng a a1 a2).1,fun a a1 a2 e => ?_,fun a a1 a2 e => ?_,fun e => ?_,fun e j hj hp => ?_⟩
 ·have hr := h.rng a a1 a2
  have := (h.val a a1 a2 1 (Nat.le_refl _) (by omega)).1 (by omega)
  exact this.1
 ·obtain ⟨j,hj⟩ := nat a a1 a2
  have hr := h.rng a a1 a2
  obtain ⟨hp,hmin⟩ := (h.val a a1 a2 j (by omega) (by omega)).1 hj
  obtain ⟨i,rfl⟩ : ∃ i,j = i + 2 := ⟨j - 2,by omega⟩
  obtain ⟨b,hbr,hbf,hpb⟩ := hp
  have hbe := hg.ent a b hbr
  refine ⟨b,hbr,hbf,?_⟩
  have := (h.val b (by omega) hbe.2 (i + 1) (by omega) (by omega)).2 ⟨hpb,fun q hq hpq => by
   cases q with
   | zero => exact hpq
   | succ q => exact hmin (q + 2) (by omega) ⟨b,hbr,hbf,hpq⟩⟩
  omega
 ·obtain ⟨j,hj⟩ := nat fr (Int.le_refl _) hf2
  have hr := h.rng fr (Int.le_refl _) hf2
  have := (h.val fr (Int.le_refl _) hf2 j (by omega) (by omega)).1 hj
  exact ⟨j,hj,by omega,this.1,this.2⟩
 ·by_cases hjk : (j : Int) < s.k
  ·exact pth_none h (Int.le_refl _) hf2 e j hjk hp
  ·-- nothing is left to look at
   unfold bGo at he
   simp only [e,decide_true,Bool.and_true,Bool.and_eq_false_iff,decide_eq_false_iff_not,ne_eq,Classical.not_not] at he
   rcases he with he | he
   ·-- no atom has the number k - 1: an atom with a way has a number
    have hk1 : 1 < s.k := by
     refine Classical.byContradiction fun q => ?_
     have := (h.now fr).2 (.inl ⟨by have := h.k1; omega,rfl⟩)
     rw [he] at this; cases this
    have key : ∀ (i : Nat) (a : Int),fr ≤ a → a < (g.length : Int) → Pth g fr i a → nthZ s.back a ≠ 0 := by
     intro i
     induction i using Nat.strongRecOn with
     | ind i ih =>
      intro a a1 a2 hp hz
      by_cases i0 : i = 0
      ·subst i0; exact hp
      ·by_cases i1 : i = 1
       ·subst i1
        exact pth_none h a1 a2 hz 1 (by omega) hp
       ·obtain ⟨q,rfl⟩ : ∃ q,i = q + 2 := ⟨i - 2,by omega⟩
        obtain ⟨b,hbr,hbf,hpb⟩ := hp
        have hbe := hg.ent a b hbr
        have hvb := ih (q + 1) (by omega) b (by omega) hbe.2 hpb
        obtain ⟨v,hv⟩ := nat b (by omega) hbe.2
        have hrb := h.rng b (by omega) hbe.2
        have hvk : (v : Int) ≠ s.k - 1 := fun q => by
         have := (h.now b).2 (.inr ⟨hk1,by omega,hbe.2,by omega⟩)
         rw [he] at this; cases this
        have hpv := ((h.val b (by omega) hbe.2 v (by omega) (by omega)).1 hv).1
        obtain ⟨u,rfl⟩ : ∃ u,v = u + 1 := ⟨v - 1,by omega⟩
        exact pth_none h a1 a2 hz (u + 2) (by omega) ⟨b,hbr,hbf,hpv⟩
    exact key j fr (Int.le_refl _) hf2 hp e
   ·omega
def tailP (g : List (List Int)) (fr : Int) (back : List Int) : Nat → Int → List Int
 | 0,_ => []
 | k + 1,x => ((rowZ g x).find? fun b => decide (fr < b) && decide (nthZ back b = (k : Int) + 1)).getD 0 :: tailP g fr back k (((rowZ g x).find? fun b => decide (fr < b) && decide (nthZ back b = (k : Int) + 1)).getD 0)
def aroundT (g : List (List Int)) (fr most : Int) : List Int :=
 if nthZ (backT g fr most) fr = 0 then [] else fr :: tailP g fr (backT g fr most) (nthZ (backT g fr most) fr - 1).toNat fr
theorem find_next {g : List (List Int)} (hg : GOk g) {fr most : Int} {back : List Int} (h : BackOk g fr most back) {k : Nat} {x : Int} (x1 : fr ≤ x) (x2 : x < (g.length : Int)) (hv : nthZ back x = (k : Int) + 2) :
  ∃ b,(rowZ g x).find? (fun b => decide (fr < b) && decide (nthZ back b = (k : Int) + 1)) = some b ∧ b ∈ rowZ g x ∧ fr < b ∧ b < (g.length : Int) ∧ nthZ back b = (k : Int) + 1 := by
 obtain ⟨c,hc,hcf,hcv⟩ := h.next x x1 x2 (by omega)
 have hs : ((rowZ g x).find? (fun b => decide (fr < b) && decide (nthZ back b = (k : Int) + 1))).isSome = true := by
  rw [List.find?_isSome]
  exact ⟨c,hc,by simp only [Bool.and_eq_true,decide_eq_true_eq]; omega⟩
 obtain ⟨b,hb⟩ := Option.isSome_iff_exists.1 hs
 have h1 := List.find?_some hb
 simp only [Bool.and_eq_true,decide_eq_true_eq] at h1
 have h2 := List.mem_of_find?_eq_some hb
 exact ⟨b,hb,h2,h1.1,(hg.ent x b h2).2,h1.2⟩
def ChainP (g : List (List Int)) (fr : Int) : Int → List Int → Prop
 | x,[] => fr ∈ rowZ g x
 | x,b :: t => b ∈ rowZ g x ∧ ChainP g fr b t
theorem tail_ok {g : List (List Int)} (hg : GOk g) {fr most : Int} {back : List Int} (h : BackOk g fr most back) : ∀ (k : Nat) (x : Int),fr ≤ x → x < (g.length : Int) → nthZ back x = (k : Int) + 1 →
  (tailP g fr back k x).length = k ∧ ChainP g fr x (tailP g fr back k x) ∧ (∀ y ∈ tailP g fr back k x,fr < y ∧ y < (g.length : Int) ∧ 1 ≤ nthZ back y ∧ nthZ back y ≤ (k : Int)) ∧ (tailP g fr back k x).Pairwise (fun a b => nthZ back b < nthZ back a)
 | 0,x,x1,x2,hv => ⟨rfl,h.one x x1 x2 (by omega),fun y hy => (by cases hy),List.Pairwise.nil⟩
 | k + 1,x,x1,x2,hv => by
  obtain ⟨b,hb,hbr,hbf,hbl,hbv⟩ := find_next hg h (k := k) x1 x2 (by omega)
  obtain ⟨i1,i2,i3,i4⟩ := tail_ok hg h k b (by omega) hbl hbv
  have e : tailP g fr back (k + 1) x = b :: tailP g fr back k b := by rw [tailP,hb]; rfl
  rw [e]
  refine ⟨by rw [List.length_cons,i1],⟨hbr,i2⟩,fun y hy => ?_,?_⟩
  ·rcases List.mem_cons.1 hy with rfl | hy
   ·exact ⟨hbf,hbl,by omega,by omega⟩
   ·have := i3 y hy; exact ⟨this.1,this.2.1,this.2.2.1,by omega⟩
  ·rw [List.pairwise_cons]
   exact ⟨fun y hy => by have := i3 y hy; omega,i4⟩
structure CycOk (g : List (List Int)) (fr : Int) (l : List Int) : Prop where
 ex : ∃ t,l = fr :: t ∧ ChainP g fr fr t ∧ ∀ y ∈ t,fr < y
 rng : ∀ y ∈ l,1 ≤ y ∧ y < (g.length : Int)
 nod : l.Nodup
 way : Pth g fr l.length fr
 min : ∀ i : Nat,i < l.length → ¬ Pth g fr i fr
theorem around_ok {g : List (List Int)} (hg : GOk g) {fr most : Int} (hf1 : 1 ≤ fr) (hf2 : fr < (g.length : Int)) (hm : 0 ≤ most) :
  (aroundT g fr most = [] ∧ ∀ j : Nat,(j : Int) ≤ most → ¬ Pth g fr j fr) ∨ (aroundT g fr most ≠ [] ∧ CycOk g fr (aroundT g fr most) ∧ ((aroundT g fr most).length : Int) ≤ most) := by
 have h := back_ok (most := most) hg hf1 hf2 hm
 unfold aroundT
 by_cases h0 : nthZ (backT g fr most) fr = 0
 ·rw [if_pos h0]
  exact .inl ⟨rfl,h.no h0⟩
 ·rw [if_neg h0]
  obtain ⟨j,hj,hjm,hp,hmin⟩ := h.yes h0
  obtain ⟨k,rfl⟩ : ∃ k,j = k + 1 := ⟨j - 1,by omega⟩
  rw [show (nthZ (backT g fr most) fr - 1).toNat = k by omega]
  obtain ⟨i1,i2,i3,i4⟩ := tail_ok hg h k fr (Int.le_refl _) hf2 (by omega)
  have hl : (fr :: tailP g fr (backT g fr most) k fr).length = k + 1 := by rw [List.length_cons,i1]
  refine .inr ⟨by simp,⟨⟨_,rfl,i2,fun y hy => (i3 y hy).1⟩,fun y hy => ?_,?_,by rw [hl]; exact hp,fun i hi => hmin i (by rw [hl] at hi; exact hi)⟩,by rw [hl]; exact hjm⟩
  ·rcases List.mem_cons.1 hy with rfl | hy
   ·exact ⟨hf1,hf2⟩
   ·have := i3 y hy; omega
  ·rw [List.nodup_cons]
   refine ⟨fun hm => by have := (i3 fr hm).1; omega,?_⟩
   exact List.nodup_iff_pairwise_ne.2 (i4.imp fun hlt e => by subst e; omega)
theorem pth_short {g : List (List Int)} (hg : GOk g) {fr : Int} (hf1 : 1 ≤ fr) (hf2 : fr < (g.length : Int)) {j : Nat} (hp : Pth g fr j fr) : ∃ i : Nat,i ≤ g.length - 1 ∧ Pth g fr i fr := by
 rcases around_ok (most := (j : Int)) hg hf1 hf2 (by omega) with ⟨-,h⟩ | ⟨-,h,-⟩
 ·exact absurd hp (h j (Int.le_refl _))
 ·refine ⟨_,?_,h.way⟩
  have := nodup_le (g.length - 1) ((aroundT g fr (j : Int)).map fun y => y - 1) (by
   refine List.nodup_iff_pairwise_ne.2 ?_
   rw [List.pairwise_map]
   exact (List.nodup_iff_pairwise_ne.1 h.nod).imp fun hne e => hne (by omega)) (fun k hk => by
   obtain ⟨y,hy,rfl⟩ := List.mem_map.1 hk
   have := h.rng y hy
   omega)
  rw [List.length_map] at this
  exact this
def cycStep (g : List (List Int)) (N : Nat) (best : List Int) (a : Int) : List Int :=
 if 0 < (aroundT g a (if 0 < best.length then (best.length : Int) - 1 else (N : Int))).length then aroundT g a (if 0 < best.length then (best.length : Int) - 1 else (N : Int)) else best
def cycT (g : List (List Int)) (N k : Nat) : List Int := (List.range k).foldl (fun best (i : Nat) => cycStep g N best ((i : Int) + 1)) []
def BestOk (g : List (List Int)) (k : Int) (best : List Int) : Prop :=
 (best = [] ∧ ∀ a,1 ≤ a → a ≤ k → ∀ j : Nat,¬ Pth g a j a) ∨ (best ≠ [] ∧ (∃ fr,CycOk g fr best) ∧ ∀ a,1 ≤ a → a ≤ k → ∀ j : Nat,Pth g a j a → best.length ≤ j)
theorem cyc_ok {g : List (List Int)} (hg : GOk g) {N : Nat} (hN : g.length = N + 1) : ∀ k : Nat,k ≤ N → BestOk g (k : Int) (cycT g N k)
 | 0,_ => .inl ⟨rfl,fun a h1 h2 => by omega⟩
 | k + 1,hk => by
  have ih := cyc_ok hg hN k (by omega)
  have e : cycT g N (k + 1) = cycStep g N (cycT g N k) ((k : Int) + 1) := by unfold cycT; rw [List.range_succ,List.foldl_append]; rfl
  rw [e]
  obtain ⟨best,hbe⟩ : ∃ best,best = cycT g N k := ⟨_,rfl⟩
  rw [← hbe] at ih ⊢
  have split_ : ∀ {Q : Int → Prop},(∀ a,1 ≤ a → a ≤ (k : Int) → Q a) → Q ((k : Int) + 1) → ∀ a,1 ≤ a → a ≤ ((k + 1 : Nat) : Int) → Q a := fun h1 h2 a a1 a2 => by
   by_cases ea : a = (k : Int) + 1
   ·subst ea; exact h2
   ·exact h1 a a1 (by omega)
  unfold cycStep
  rcases ih with ⟨hb,hno⟩ | ⟨hb,hcy,hno⟩
  ·subst hb
   simp only [List.length_nil,Nat.lt_irrefl,if_false]
   rcases around_ok (fr := (k : Int) + 1) (most := (N : Int)) hg (by omega) (by omega) (by omega) with ⟨h1,h2⟩ | ⟨h1,h2,h3⟩
   ·rw [h1]
    simp only [List.length_nil,Nat.lt_irrefl,if_false]
    refine .inl ⟨rfl,split_ hno fun j hp => ?_⟩
    obtain ⟨i,hi,hpi⟩ := pth_short hg (by omega) (by omega) hp
    exact h2 i (by omega) hpi
   ·rw [if_pos (List.length_pos_iff.2 h1)]
    refine .inr ⟨h1,⟨_,h2⟩,split_ (fun a a1 a2 j hp => absurd hp (hno a a1 a2 j)) fun j hp => ?_⟩
    rcases Nat.lt_or_ge j (aroundT g ((k : Int) + 1) (N : Int)).length with q | q
    ·exact absurd hp (h2.min j q)
    ·exact q
  ·have hlp := List.length_pos_iff.2 hb
   rw [if_pos hlp]
   rcases around_ok (fr := (k : Int) + 1) (most := (best.length : Int) - 1) hg (by omega) (by omega) (by omega) with ⟨h1,h2⟩ | ⟨h1,h2,h3⟩
   ·rw [h1]
    simp only [List.length_nil,Nat.lt_irrefl,if_false]
    refine .inr ⟨hb,hcy,split_ hno fun j hp => ?_⟩
    rcases Nat.lt_or_ge j best.length with q | q
    ·exact absurd hp (h2 j (by omega))
    ·exact q
   ·rw [if_pos (List.length_pos_iff.2 h1)]
    refine .inr ⟨h1,⟨_,h2⟩,split_ (fun a a1 a2 j hp => by have := hno a a1 a2 j hp; omega) fun j hp => ?_⟩
    rcases Nat.lt_or_ge j (aroundT g ((k : Int) + 1) ((best.length : Int) - 1)).length with q | q
    ·exact absurd hp (h2.min j q)
    ·exact q
def Wlk (g : List (List Int)) : Nat → Int → Int → Prop
 | 0,x,y => x = y
 | k + 1,x,y => ∃ b ∈ rowZ g x,Wlk g k b y
theorem Wlk.app {g : List (List Int)} : ∀ (i : Nat) {j : Nat} {x y z : Int},Wlk g i x y → Wlk g j y z → Wlk g (i + j) x z
 | 0,j,x,y,z,h,k => by
  have : x = y := h
  subst this
  rw [Nat.zero_add]; exact k
 | i + 1,j,x,y,z,⟨b,hb,h⟩,k => by
  rw [show i + 1 + j = (i + j) + 1 by omega]
  exact ⟨b,hb,Wlk.app i h k⟩
theorem wlk_low {g : List (List Int)} (m : Int) : ∀ (k : Nat) (x : Int),m ≤ x → Wlk g (k + 1) x m → (∃ j : Nat,j ≤ k + 1 ∧ Pth g m j x) ∨ ∃ i y,i ≤ k + 1 ∧ y < m ∧ Wlk g i x y ∧ Wlk g (k + 1 - i) y m ∧ 1 ≤ i
 | 0,x,hx,⟨b,hb,h⟩ => by
  have : b = m := h
  subst this
  exact .inl ⟨1,Nat.le_refl _,hb⟩
 | k + 1,x,hx,⟨b,hb,h⟩ => by
  rcases Int.lt_trichotomy b m with hl | hl | hl
  ·exact .inr ⟨1,b,by omega,hl,⟨b,hb,rfl⟩,h,Nat.le_refl _⟩
  ·subst hl
   exact .inl ⟨1,by omega,hb⟩
  ·rcases wlk_low m k b (by omega) h with ⟨j,hj,hp⟩ | ⟨i,y,hi,hy,w1,w2,i1⟩
   ·cases j with
    | zero => exact absurd hp (fun q => q)
    | succ j => exact .inl ⟨j + 2,by omega,b,hb,hl,hp⟩
   ·exact .inr ⟨i + 1,y,by omega,hy,⟨b,hb,w1⟩,by rw [show k + 1 + 1 - (i + 1) = k + 1 - i by omega]; exact w2,by omega⟩
theorem closed_pth {g : List (List Int)} (hg : GOk g) : ∀ (n : Nat) (m : Int),1 ≤ m → m.toNat ≤ n → ∀ k : Nat,Wlk g (k + 1) m m → ∃ (a : Int) (j : Nat),1 ≤ a ∧ a < (g.length : Int) ∧ j ≤ k + 1 ∧ Pth g a j a
 | 0,m,h1,h2,k,h => by omega
 | n + 1,m,h1,h2,k,h => by
  rcases wlk_low m k m (Int.le_refl _) h with ⟨j,hj,hp⟩ | ⟨i,y,hi,hy,w1,w2,i1⟩
  ·refine ⟨m,j,h1,?_,hj,hp⟩
   obtain ⟨b,hb,-⟩ := h
   refine Classical.byContradiction fun q => ?_
   have : rowZ g m = [] := by
    unfold rowZ
    rw [List.getD_eq_getElem?_getD,List.getElem?_eq_none (by omega)]; rfl
   rw [this] at hb; cases hb
  ·-- y lies on the walk,it is an atom
   have hy1 : 1 ≤ y := by
    have key : ∀ (i : Nat) (x : Int),Wlk g (i + 1) x y → 1 ≤ y := by
     intro i
     induction i with
     | zero => rintro x ⟨b,hb,e⟩; have e : b = y := e; subst e; exact (hg.ent x b hb).1
     | succ i ih => rintro x ⟨b,hb,w⟩; exact ih b w
    obtain ⟨q,rfl⟩ : ∃ q,i = q + 1 := ⟨i - 1,by omega⟩
    exact key q m w1
   have w := Wlk.app (k + 1 - i) w2 w1
   rw [show k + 1 - i + i = k + 1 by omega] at w
   exact closed_pth hg n y hy1 (by omega) k w
end Go.Proofs.YtbfbkpoakmnlpaaGreat
namespace Go.Proofs.YtbfbkpoakmnlpaaGreat
def insZ (x : Int) : List Int → List Int
 | [] => [x]
 | y :: r => if x ≤ y then x :: y :: r else y :: insZ x r
def isZ : List Int → List Int
 | [] => []
 | x :: r => insZ x (isZ r)
theorem insZ_perm (x : Int) : ∀ l : List Int,(insZ x l).Perm (x :: l)
 | [] => List.Perm.refl _
 | y :: r => by
  rw [insZ]
  split
  ·exact List.Perm.refl _
  ·exact ((insZ_perm x r).cons y).trans (List.Perm.swap x y r)
theorem isZ_perm : ∀ l : List Int,(isZ l).Perm l
 | [] => List.Perm.refl _
 | x :: r => (insZ_perm x (isZ r)).trans ((isZ_perm r).cons x)
theorem insZ_le (x : Int) : ∀ l : List Int,l.Pairwise (· ≤ ·) → (insZ x l).Pairwise (· ≤ ·)
 | [],_ => by simp [insZ]
 | y :: r,h => by
  rw [List.pairwise_cons] at h
  rw [insZ]
  split
  ·rename_i hxy
   rw [List.pairwise_cons,List.pairwise_cons]
   exact ⟨fun z hz => by
    rcases List.mem_cons.1 hz with rfl | hz
    ·exact hxy
    ·have := h.1 z hz; omega,h⟩
  ·rename_i hxy
   rw [List.pairwise_cons]
   refine ⟨fun z hz => ?_,insZ_le x r h.2⟩
   rcases List.mem_cons.1 ((insZ_perm x r).mem_iff.1 hz) with rfl | hz
   ·omega
   ·exact h.1 z hz
theorem isZ_le : ∀ l : List Int,(isZ l).Pairwise (· ≤ ·)
 | [] => List.Pairwise.nil
 | x :: r => insZ_le x _ (isZ_le r)
theorem perm_eq_of_le : ∀ {a b : List Int},a.Perm b → a.Pairwise (· ≤ ·) → b.Pairwise (· ≤ ·) → a = b
 | [],b,h,_,_ => (List.nil_perm.1 h).symm
 | x :: r,[],h,_,_ => by have := h.length_eq; simp at this
 | x :: r,y :: t,h,h1,h2 => by
  rw [List.pairwise_cons] at h1 h2
  have hxy : x = y := by
   have hx : x ∈ y :: t := h.mem_iff.1 (List.mem_cons_self ..)
   have hy : y ∈ x :: r := h.mem_iff.2 (List.mem_cons_self ..)
   rcases List.mem_cons.1 hx with e | hx
   ·exact e
   ·rcases List.mem_cons.1 hy with e | hy
    ·exact e.symm
    ·have := h1.1 y hy; have := h2.1 x hx; omega
  subst hxy
  rw [perm_eq_of_le (List.Perm.cons_inv h) h1.2 h2.2]
theorem sortZ_is (l : List Int) : sortZ l = isZ l := perm_eq_of_le ((List.mergeSort_perm l _).trans (isZ_perm l).symm) (sortZ_le l) (isZ_le l)
def ofE (p : GProg) : List (List Int) := (List.range (p.n.toNat + 1)).map fun a => Lib.compact (isZ (rawL p.rules a))
theorem ofL_E (p : GProg) : ofL p = ofE p := by unfold ofL ofE; simp only [sortZ_is]
def tCompE (s : TS) (a : Int) : TS :=
 if nthZ s.low a = nthZ s.idx a then
  { s with stack := s.stack.take (s.stack.idxOf a),on := offAll s.on (s.stack.drop (s.stack.idxOf a)),out := s.out ++ [isZ (s.stack.drop (s.stack.idxOf a))] }
 else s
theorem tComp_E (s : TS) (a : Int) : tComp s a = tCompE s a := by unfold tComp tCompE; rw [sortZ_is]
def tStepE (g : List (List Int)) (s : TS) : TS :=
 match s.calls with
 | [] => s
 | (a,k) :: rest =>
  match (rowZ g a)[k]? with
  | some b => tNext (tVisit s a k) a k rest b
  | none => tCompE (tUp (tVisit s a k) a rest) a
theorem tStep_E (g : List (List Int)) (s : TS) : tStep g s = tStepE g s := by
 unfold tStep tStepE
 simp only [tComp_E]
 rfl
def tIterE (g : List (List Int)) : Nat → TS → TS
 | 0,s => s
 | n + 1,s => tIterE g n (tStepE g s)
theorem tIter_E (g : List (List Int)) : ∀ (n : Nat) (s : TS),tIter g n s = tIterE g n s
 | 0,s => rfl
 | n + 1,s => by rw [tIter,tIterE,tIter_E g n,tStep_E]
def tSearchE (fuel : Nat) (g : List (List Int)) (s : TS) (a : Int) : TS := if nthZ s.idx a = 0 then tIterE g fuel (tFrom s a) else s
def tRunE (fuel : Nat) (g : List (List Int)) : Nat → TS
 | 0 => tInit g.length
 | k + 1 => tSearchE fuel g (tRunE fuel g k) ((k : Int) + 1)
theorem run_E {g : List (List Int)} (hg : GOk g) (fuel : Nat) : ∀ k : Nat,k < g.length → (∀ j : Nat,j < k → (tRunE fuel g (j + 1)).calls = []) → tRun g k = tRunE fuel g k
 | 0,_,_ => rfl
 | k + 1,hk,h => by
  have ih := run_E hg fuel k (by omega) (fun j hj => h j (by omega))
  have hr := (run_root hg k (by omega)).1
  rw [tRun_succ,tRunE]
  have hc := h k (by omega)
  rw [tRunE] at hc
  rw [ih] at hr ⊢
  unfold tSearch tSearchE
  unfold tSearchE at hc
  by_cases h0 : nthZ (tRunE fuel g k).idx ((k : Int) + 1) = 0
  ·rw [if_pos h0] at hc
   rw [if_pos h0,if_pos h0,← tIter_E]
   rw [← tIter_E] at hc
   exact tIter_same (tIter_end hg _ (from_ok hr (by omega) (by omega) h0).1 (Nat.le_refl _)) hc
  ·rw [if_neg h0,if_neg h0]
theorem compT_E {g : List (List Int)} (hg : GOk g) (fuel n : Nat) (hn : g.length = n + 1) (h : (List.range n).all (fun j => (tRunE fuel g (j + 1)).calls.isEmpty) = true) : compT g = (tRunE fuel g n).out := by
 unfold compT
 rw [hn,Nat.add_sub_cancel,run_E hg fuel n (by omega) fun j hj => by
  have := List.all_eq_true.1 h j (List.mem_range.2 hj)
  simpa using this]
def gr1 : GRule := ⟨false,[1],false,0,[2],[]⟩
def gr2 : GRule := ⟨false,[2],false,0,[1,-3],[]⟩
def gr3 : GRule := ⟨false,[3,4],false,0,[2],[]⟩
def gr4 : GRule := ⟨true,[5],false,0,[3,5],[]⟩
def gr5 : GRule := ⟨false,[1,2],false,0,[],[]⟩
def gxN : List ByteArray := [ByteArray.empty,ByteArray.empty,ByteArray.empty,ByteArray.empty,ByteArray.empty]
def gxP : GProg := ⟨5,gxN,[],[gr1,gr2,gr3,gr4,gr5],[]⟩
def gx4 : GProg := ⟨5,gxN,[],[gr1,gr2,gr3,gr4],[]⟩
def gx3 : GProg := ⟨5,gxN,[],[gr1,gr2,gr3],[]⟩
def gxM : GProg := ⟨-1,gxN,[],[gr1,gr2,gr3],[]⟩
def gxG : List (List Int) := [[],[2],[1],[2],[2],[3,5]]
theorem gx_v : validE gxP = 0 := by kernel_rfl
theorem gx_v4 : validE gx4 = 0 := by kernel_rfl
theorem gx_v3 : validE gx3 = 0 := by kernel_rfl
theorem gx_vM : validE gxM = 170 := by kernel_rfl
theorem gx_of : ofL gxP = gxG := by rw [ofL_E]; kernel_rfl
theorem gx_of4 : ofL gx4 = gxG := by rw [ofL_E]; kernel_rfl
theorem gx_of3 : ofL gx3 = [[],[2],[1],[2],[2],[]] := by rw [ofL_E]; kernel_rfl
theorem gx_ok : GOk gxG := gx_of ▸ of_ok (validE_is gx_v) (by decide) (by decide)
theorem gx_comp : compT gxG = [[1,2],[3],[4],[5]] := by
 rw [compT_E gx_ok 40 5 rfl (by kernel_rfl)]
 kernel_rfl
theorem gx_sort : sortT gxG [[1,2],[3],[4],[5]] = [[1,2],[3],[4],[5]] := by kernel_rfl
theorem gx_cyc : cycT gxG 5 5 = [5] := by kernel_rfl
theorem gx_cyc3 : cycT [[],[2],[1],[2],[2],[]] 5 5 = [1,2] := by kernel_rfl
end Go.Proofs.YtbfbkpoakmnlpaaGreat
namespace Go.Proofs.YtbfbkpoakmnlpaaGreat
open Go.RowKit
def gxO (n : Nat) : List Obj := [.cells #[.int .i64 5,.slice (some ⟨n + 1,0,none⟩) 5 5,.slice none 0 0,.slice (some ⟨n + 11,0,none⟩) 5 5,.slice none 0 0] 27,
 .cells #[.string ByteArray.empty,.string ByteArray.empty,.string ByteArray.empty,.string ByteArray.empty,.string ByteArray.empty] 9,
 .cells #[.int .i64 1] 3,.cells #[.int .i64 2] 3,.cells #[.int .i64 2] 3,.cells #[.int .i64 1,.int .i64 (-3)] 3,.cells #[.int .i64 3,.int .i64 4] 3,.cells #[.int .i64 2] 3,.cells #[.int .i64 5] 3,.cells #[.int .i64 3,.int .i64 5] 3,.cells #[.int .i64 1,.int .i64 2] 3,
 .cells #[.bool false,.slice (some ⟨n + 2,0,none⟩) 1 1,.bool false,.int .i64 0,.slice (some ⟨n + 3,0,none⟩) 1 1,.slice none 0 0,.bool false,.slice (some ⟨n + 4,0,none⟩) 1 1,.bool false,.int .i64 0,.slice (some ⟨n + 5,0,none⟩) 2 2,.slice none 0 0,.bool false,.slice (some ⟨n + 6,0,none⟩) 2 2,.bool false,.int .i64 0,.slice (some ⟨n + 7,0,none⟩) 1 1,.slice none 0 0,.bool true,.slice (some ⟨n + 8,0,none⟩) 1 1,.bool false,.int .i64 0,.slice (some ⟨n + 9,0,none⟩) 2 2,.slice none 0 0,.bool false,.slice (some ⟨n + 10,0,none⟩) 2 2,.bool false,.int .i64 0,.slice none 0 0,.slice none 0 0] 59]
theorem gx_rules (w : World) : SlIs ruleR (allocs w (gxO w.heap.size)) (some ⟨w.heap.size + 11,0,none⟩) 5 5 [gr1,gr2,gr3,gr4,gr5] := by
 have h : ∀ i cs t,(gxO w.heap.size)[i]? = some (.cells cs t) → Blk (allocs w (gxO w.heap.size)) (w.heap.size + i) t cs := fun _ _ _ h => allocs_blk _ h
 exact sl_rulesAt (h 11 _ _ rfl) ⟨rfl,i1 _ _ _ (h 2 _ _ rfl) (by simp [I64]),rfl,rfl,by simp [I64,gr1],i1 _ _ _ (h 3 _ _ rfl) (by simp [I64]),ints_nil _,
  rfl,i1 _ _ _ (h 4 _ _ rfl) (by simp [I64]),rfl,rfl,by simp [I64,gr2],i2 _ _ _ _ (h 5 _ _ rfl) (by simp [I64]) (by simp [I64]),ints_nil _,
  rfl,i2 _ _ _ _ (h 6 _ _ rfl) (by simp [I64]) (by simp [I64]),rfl,rfl,by simp [I64,gr3],i1 _ _ _ (h 7 _ _ rfl) (by simp [I64]),ints_nil _,
  rfl,i1 _ _ _ (h 8 _ _ rfl) (by simp [I64]),rfl,rfl,by simp [I64,gr4],i2 _ _ _ _ (h 9 _ _ rfl) (by simp [I64]) (by simp [I64]),ints_nil _,
  rfl,i2 _ _ _ _ (h 10 _ _ rfl) (by simp [I64]) (by simp [I64]),rfl,rfl,by simp [I64,gr5],ints_nil _,ints_nil _,trivial⟩ rfl (by simp)
set_option maxRecDepth 100000 in
set_option maxHeartbeats 1000000 in
theorem example21_any (w : World) :
  Calls Tryz.prog 13 #[] w fun e w' => ∃ (nA : Option Addr) (nl nc : Nat) (rA : Option Addr),e = .returned (.agg #[.int .i64 5,.slice nA nl nc,.slice none 0 0,.slice rA 5 5,.slice none 0 0]) ∧ SlIs strR w' nA nl nc gxN ∧ SlIs ruleR w' rA 5 5 [gr1,gr2,gr3,gr4,gr5] ∧ Below w.heap.size w w' := by
 have hmk : ∀ W : World,(Instr.makeSlice 22 (.int .i64 5) (.int .i64 5)).run Tryz.prog W = .ok (.slice (some ⟨W.heap.size,0,none⟩) 5 5) (W.alloc (.cells #[.string ByteArray.empty,.string ByteArray.empty,.string ByteArray.empty,.string ByteArray.empty,.string ByteArray.empty] 9)) := fun _ => by kernel_rfl
 go_enter Tryz.func13,Tryz.ntmps13
 go_wp2
 change bodyPost _ _ _ _ _ (allocs w (gxO w.heap.size))
 refine bodyPost_ret (results_cell_row rfl _ _ (w.heap.size + 0) 27 _ (0,0) _ rfl (allocs_heap (gxO w.heap.size) w 0 _ rfl) Tryz.underlying27 rfl (by kernel_rfl)) rfl ?_
 refine ⟨_,_,_,_,rfl,?_,gx_rules w,allocs_bel _ _⟩
 refine sl_of_cells (allocs_blk (os := gxO w.heap.size) 1 rfl) rfl (by omega) (fun i x hx => ?_)
 have hx0 : x = ByteArray.empty := by
  have := List.mem_of_getElem? hx
  simp [gxN] at this; exact this
 have hi : i < 5 := (List.getElem?_eq_some_iff.1 hx).1
 subst hx0
 refine ⟨[.string ByteArray.empty],⟨rfl,by unfold maxLen; decide⟩,fun j u hu => ?_⟩
 match j,hu with
 | 0,hu =>
  simp at hu; subst hu
  match i,hi with
  | 0,_ => rfl
  | 1,_ => rfl
  | 2,_ => rfl
  | 3,_ => rfl
  | 4,_ => rfl
 | j + 1,hu => simp at hu
end Go.Proofs.YtbfbkpoakmnlpaaGreat
namespace Go.Proofs.YtbfbkpoakmnlpaaGreat
open Go.RowKit
set_option maxRecDepth 100000 in
set_option maxHeartbeats 2000000 in
theorem lists21_any (aA : Option Addr) (al ac : Nat) (bA : Option Addr) (bl bc : Nat) (xs ys : List (List Int)) (w : World) (ha : SlIs (slR intR) w aA al ac xs) (hb : SlIs (slR intR) w bA bl bc ys) :
  Calls Tryz.prog 17 #[.slice aA al ac,.slice bA bl bc] w fun e w' => e = .returned (.bool (decide (xs = ys))) ∧ Below w.heap.size w w' := by
 have hl := ha.cap
 have hm := ha.max
 have hl2 := hb.cap
 have hm2 := hb.max
 have la := Lib.hid ha.len
 have lb := Lib.hid hb.len
 have HA := Lib.hid ha; clear ha
 have HB := Lib.hid hb; clear hb
 by_cases hne : al = bl
 ·subst hne
  go_enter Tryz.func17,Tryz.ntmps17
  go_wp2
  go_loopw [13] (fun i wr => ∃ k : Nat,k ≤ al ∧ i = .int .i64 k ∧ Below w.heap.size w wr ∧ decide (xs = ys) = decide (xs.drop k = ys.drop k)) (fun i _ => al - (intOf i).toNat)
  case atStart => exact ⟨0,Nat.zero_le _,rfl,Below.refl _ _,rfl⟩
  case round =>
   obtain ⟨k,hk,rfl,hbw,hs⟩ := hrel
   have H1 := Lib.hid (HA.out.ext hbw)
   have H2 := Lib.hid (HB.out.ext hbw)
   have HBW := Lib.hid hbw
   clear hbw
   have HS := Lib.hid hs; clear hs
   by_cases hlt : k < al
   ·obtain ⟨x,hx,hd⟩ := HA.out.drop hlt
    obtain ⟨y,hy,hd2⟩ := HB.out.drop hlt
    obtain ⟨b,off,hA,hl,hc,rfl,_,f0,g1⟩ := H1.out.set hx
    obtain ⟨b',off',hA',hl',hc',rfl,_,e0,p1⟩ := H2.out.set hy
    have HX := Lib.hid hx; clear hx
    have HD := Lib.hid hd; clear hd
    have HY := Lib.hid hy; clear hy
    have HD2 := Lib.hid hd2; clear hd2
    have G1 := Lib.hid g1; clear g1
    have P1 := Lib.hid p1; clear p1
    have i0 : (0 : Int) ≤ (k : Int) := by omega
    have i1 : (k : Int) < (al : Int) := by omega
    by_cases he : x = y
    ·have HE := Lib.hid he
     have heb : decide (x = y) = true := decide_eq_true he
     clear he
     have hct := fun W hb => heb ▸ lawInts_any hA hl hc hA' hl' hc' x y W (G1.out.ext hb) (P1.out.ext hb)
     have HCT := Lib.hid hct
     clear hct heb
     go_wp2_with fail
     refine wp_region_later [(⟨b,off + k,none⟩,.slice hA hl hc),(⟨b',off' + k,none⟩,.slice hA' hl' hc')] (by kernel_rfl) (by kernel_rfl) (by simp [go_sem, *]) ?_
     intro hk; simp only [List.forall_mem_cons] at hk; obtain ⟨k1_0,k1_1,kz⟩ := hk; clear kz
     repeat go_big_quiet_step ((first | (go_at_call 18; exact Calls.later (HCT.out _ (Later.h _)))))
     refine wpQuiet_nil ?_
     rintro w2 ⟨u1,rfl⟩
     have HU1 := Lib.hid u1.h
     clear k1_0 k1_1
     go_wp2_with fail
     go_roundw
     case rel => exact ⟨k + 1,by omega,by go_num,bel_trans HBW.out HU1.out,by rw [HS.out,HD.out,HD2.out,eq_cons,decide_eq_true HE.out,Bool.true_and]⟩
     case measure => simp [intOf]; omega
    ·have HE := Lib.hid he
     have heb : decide (x = y) = false := decide_eq_false he
     clear he
     have hct := fun W hb => heb ▸ lawInts_any hA hl hc hA' hl' hc' x y W (G1.out.ext hb) (P1.out.ext hb)
     have HCT := Lib.hid hct
     clear hct heb
     go_wp2_with fail
     refine wp_region_later [(⟨b,off + k,none⟩,.slice hA hl hc),(⟨b',off' + k,none⟩,.slice hA' hl' hc')] (by kernel_rfl) (by kernel_rfl) (by simp [go_sem, *]) ?_
     intro hk; simp only [List.forall_mem_cons] at hk; obtain ⟨k1_0,k1_1,kz⟩ := hk; clear kz
     repeat go_big_quiet_step ((first | (go_at_call 18; exact Calls.later (HCT.out _ (Later.h _)))))
     refine wpQuiet_nil ?_
     rintro w2 ⟨u1,rfl⟩
     have HU1 := Lib.hid u1.h
     clear k1_0 k1_1
     go_wp2_with fail
     go_ret
     exact ⟨ret_bool (by rw [HS.out,HD.out,HD2.out,eq_cons,decide_eq_false HE.out,Bool.false_and]),bel_trans HBW.out HU1.out⟩
   ·have hd := HA.out.stop (k := k) (by omega)
    have hd2 := HB.out.stop (k := k) (by omega)
    have HD := Lib.hid hd; clear hd
    have HD2 := Lib.hid hd2; clear hd2
    go_wp2
    go_ret
    exact ⟨ret_bool (by rw [HS.out,HD.out,HD2.out]; rfl),HBW.out⟩
 ·have he : xs ≠ ys := fun e => hne (by rw [la.out,lb.out,e])
  have HE := Lib.hid he; clear he
  go_enter Tryz.func17,Tryz.ntmps17
  go_wp2
  go_ret
  exact ⟨ret_bool (decide_eq_false HE.out).symm,Below.refl _ _⟩
theorem eq_pair (a b c d : Int) (w : World) : (Op.equalIn 10000 38 (.agg #[.int .i64 a,.int .i64 b]) (.agg #[.int .i64 c,.int .i64 d])).run Tryz.prog w = .ok (decide ((a,b) = (c,d))) w := by
 have u3 := Tryz.underlying3
 have a3 := Tryz.isAgg3
 have z3 := Tryz.sizeOf3
 rw [show (10000 : Nat) = 9999 + 1 from rfl,Op.equalIn]
 simp only [Sem.run_bind,run_underlying Tryz.underlying38,Result.andThen_ok]
 simp only [Std.Legacy.Range.forIn_eq_forIn_range',Std.Legacy.Range.size,Nat.sub_zero,Nat.add_sub_cancel,Nat.div_one,List.range'_succ,List.range'_zero,List.forIn_cons,List.forIn_nil]
 go_simp
 by_cases h1 : a = c <;> by_cases h2 : b = d <;> simp [h1,h2]
set_option maxRecDepth 100000 in
set_option maxHeartbeats 2000000 in
theorem edges21_any (aA : Option Addr) (al ac : Nat) (bA : Option Addr) (bl bc : Nat) (xs ys : List (Int × Int)) (w : World) (ha : SlIs pairR w aA al ac xs) (hb : SlIs pairR w bA bl bc ys) :
  Calls Tryz.prog 16 #[.slice aA al ac,.slice bA bl bc] w fun e w' => e = .returned (.bool (decide (xs = ys))) ∧ Below w.heap.size w w' := by
 have hl := ha.cap
 have hm := ha.max
 have hl2 := hb.cap
 have hm2 := hb.max
 have la := Lib.hid ha.len
 have lb := Lib.hid hb.len
 have HA := Lib.hid ha; clear ha
 have HB := Lib.hid hb; clear hb
 by_cases hne : al = bl
 ·subst hne
  go_enter Tryz.func16,Tryz.ntmps16
  go_wp2
  go_loopw [13] (fun i wr => ∃ k : Nat,k ≤ al ∧ i = .int .i64 k ∧ Below w.heap.size w wr ∧ decide (xs = ys) = decide (xs.drop k = ys.drop k)) (fun i _ => al - (intOf i).toNat)
  case atStart => exact ⟨0,Nat.zero_le _,rfl,Below.refl _ _,rfl⟩
  case round =>
   obtain ⟨k,hk,rfl,hbw,hs⟩ := hrel
   have H1 := Lib.hid (HA.out.ext hbw)
   have H2 := Lib.hid (HB.out.ext hbw)
   have HBW := Lib.hid hbw
   clear hbw
   have HS := Lib.hid hs; clear hs
   by_cases hlt : k < al
   ·obtain ⟨x,hx,hd⟩ := HA.out.drop hlt
    obtain ⟨y,hy,hd2⟩ := HB.out.drop hlt
    obtain ⟨b,off,rfl,_,f0,f1,g1,g2⟩ := H1.out.pair hx
    obtain ⟨b',off',rfl,_,e0,e1,p1,p2⟩ := H2.out.pair hy
    have HX := Lib.hid hx; clear hx
    have HD := Lib.hid hd; clear hd
    have HY := Lib.hid hy; clear hy
    have HD2 := Lib.hid hd2; clear hd2
    have G1 := Lib.hid g1; clear g1
    have G2 := Lib.hid g2; clear g2
    have P1 := Lib.hid p1; clear p1
    have P2 := Lib.hid p2; clear p2
    have i0 : (0 : Int) ≤ (k : Int) := by omega
    have i1 : (k : Int) < (al : Int) := by omega
    obtain ⟨x1,x2⟩ := x
    obtain ⟨y1,y2⟩ := y
    obtain ⟨nb,hnb⟩ : ∃ nb,nb = (!decide (x1 = y1) || !decide (x2 = y2)) := ⟨_,rfl⟩
    simp only at f0 f1 e0 e1
    have HNB := Lib.hid hnb
    clear hnb
    go_upto_region 6 with fail
    refine wp_region_inv (fun listed a' w' => ∃ (b0 b1 b2 b3 b4 b5 b6 b7 b8 : Bool) (u16 u17 u18 u19 u20 u21 u22 u23 u24 : Value),listed = #[b0,b1,b2,b3,b4,b5,b6,b7,b8] ∧ a' = { tmps := #[.slice (some ⟨b,off,none⟩) al ac,.slice (some ⟨b',off',none⟩) al bc,undef,undef,u4,.int .i64 (k : Int),.slice (some ⟨b,off,none⟩) al ac,.int .i64 (al : Int),.slice (some ⟨b',off',none⟩) al bc,.int .i64 (al : Int),.bool false,.slice (some ⟨b,off,none⟩) al ac,.int .i64 (al : Int),.int .i64 (k : Int),.bool true,.int .i64 (k : Int),u16,u17,u18,u19,u20,u21,u22,u23,u24,u25],defers := [] } ∧ (Below wr.heap.size wr w') ∧ (b0 = true → u16 = .slice (some ⟨b,off,none⟩) al ac) ∧ (b1 = true → u17 = .int .i64 (k : Int)) ∧ (b2 = true → u18 = .pointer (some ⟨b,off + k * 2,none⟩)) ∧ (b3 = true → u19 = .agg #[.int .i64 x1,.int .i64 x2]) ∧ (b4 = true → u20 = .slice (some ⟨b',off',none⟩) al bc) ∧ (b5 = true → u21 = .int .i64 (k : Int)) ∧ (b6 = true → u22 = .pointer (some ⟨b',off' + k * 2,none⟩)) ∧ (b7 = true → u23 = .agg #[.int .i64 y1,.int .i64 y2]) ∧ (b8 = true → u24 = .bool nb)) (by kernel_rfl) ?start ?step ?_
    case start => exact ⟨false,false,false,false,false,false,false,false,false,_,_,_,_,_,_,_,_,_,rfl,rfl,(Below.refl _ _).drew,(by simp),(by simp),(by simp),(by simp),(by simp),(by simp),(by simp),(by simp),(by simp)⟩
    case step =>
     rintro listed a' w' i o ⟨b0,b1,b2,b3,b4,b5,b6,b7,b8,u16,u17,u18,u19,u20,u21,u22,u23,u24,rfl,rfl,hB,f0_,f1_,f2_,f3_,f4_,f5_,f6_,f7_,f8_⟩ ho hli hd K hK
     match i,ho,hli,hd with
     | 0,ho,hli,hd =>
      obtain rfl := Option.some.inj ho
      obtain rfl : b0 = false := hli
      go_simp
      exact hK _ _ ⟨_,_,_,_,_,_,_,_,_,_,_,_,_,_,_,_,_,_,rfl,rfl,hB,(fun _ => rfl),f1_,f2_,f3_,f4_,f5_,f6_,f7_,f8_⟩
     | 1,ho,hli,hd =>
      obtain rfl := Option.some.inj ho
      obtain rfl : b1 = false := hli
      go_simp
      exact hK _ _ ⟨_,_,_,_,_,_,_,_,_,_,_,_,_,_,_,_,_,_,rfl,rfl,hB,f0_,(fun _ => rfl),f2_,f3_,f4_,f5_,f6_,f7_,f8_⟩
     | 2,ho,hli,hd =>
      obtain rfl := Option.some.inj ho
      obtain rfl : b2 = false := hli
      obtain rfl : b0 = true := hd ⟨0,.data⟩ (by simp) rfl
      obtain rfl : b1 = true := hd ⟨1,.data⟩ (by simp) rfl
      obtain rfl := f0_ rfl
      obtain rfl := f1_ rfl
      go_simp
      exact hK _ _ ⟨_,_,_,_,_,_,_,_,_,_,_,_,_,_,_,_,_,_,rfl,rfl,hB,f0_,f1_,(fun _ => rfl),f3_,f4_,f5_,f6_,f7_,f8_⟩
     | 3,ho,hli,hd =>
      obtain rfl := Option.some.inj ho
      obtain rfl : b3 = false := hli
      obtain rfl : b2 = true := hd ⟨2,.data⟩ (by simp) rfl
      obtain rfl := f2_ rfl
      have c1 : w'.cell? ⟨b,off + k * 2,none⟩ = some (.int .i64 x1) := (hB.cell (World.block_lt_of_cell? _ _ f0)).trans f0
      have c2 : w'.cell? ⟨b,off + k * 2 + 1,none⟩ = some (.int .i64 x2) := (hB.cell (World.block_lt_of_cell? _ _ f1)).trans f1
      go_simp
      exact hK _ _ ⟨_,_,_,_,_,_,_,_,_,_,_,_,_,_,_,_,_,_,rfl,rfl,hB,f0_,f1_,f2_,(fun _ => rfl),f4_,f5_,f6_,f7_,f8_⟩
     | 4,ho,hli,hd =>
      obtain rfl := Option.some.inj ho
      obtain rfl : b4 = false := hli
      go_simp
      exact hK _ _ ⟨_,_,_,_,_,_,_,_,_,_,_,_,_,_,_,_,_,_,rfl,rfl,hB,f0_,f1_,f2_,f3_,(fun _ => rfl),f5_,f6_,f7_,f8_⟩
     | 5,ho,hli,hd =>
      obtain rfl := Option.some.inj ho
      obtain rfl : b5 = false := hli
      go_simp
      exact hK _ _ ⟨_,_,_,_,_,_,_,_,_,_,_,_,_,_,_,_,_,_,rfl,rfl,hB,f0_,f1_,f2_,f3_,f4_,(fun _ => rfl),f6_,f7_,f8_⟩
     | 6,ho,hli,hd =>
      obtain rfl := Option.some.inj ho
      obtain rfl : b6 = false := hli
      obtain rfl : b4 = true := hd ⟨4,.data⟩ (by simp) rfl
      obtain rfl : b5 = true := hd ⟨5,.data⟩ (by simp) rfl
      obtain rfl := f4_ rfl
      obtain rfl := f5_ rfl
      go_simp
      exact hK _ _ ⟨_,_,_,_,_,_,_,_,_,_,_,_,_,_,_,_,_,_,rfl,rfl,hB,f0_,f1_,f2_,f3_,f4_,f5_,(fun _ => rfl),f7_,f8_⟩
     | 7,ho,hli,hd =>
      obtain rfl := Option.some.inj ho
      obtain rfl : b7 = false := hli
      obtain rfl : b6 = true := hd ⟨6,.data⟩ (by simp) rfl
      obtain rfl := f6_ rfl
      have c1 : w'.cell? ⟨b',off' + k * 2,none⟩ = some (.int .i64 y1) := (hB.cell (World.block_lt_of_cell? _ _ e0)).trans e0
      have c2 : w'.cell? ⟨b',off' + k * 2 + 1,none⟩ = some (.int .i64 y2) := (hB.cell (World.block_lt_of_cell? _ _ e1)).trans e1
      go_simp
      exact hK _ _ ⟨_,_,_,_,_,_,_,_,_,_,_,_,_,_,_,_,_,_,rfl,rfl,hB,f0_,f1_,f2_,f3_,f4_,f5_,f6_,(fun _ => rfl),f8_⟩
     | 8,ho,hli,hd =>
      obtain rfl := Option.some.inj ho
      obtain rfl : b8 = false := hli
      obtain rfl : b3 = true := hd ⟨3,.data⟩ (by simp) rfl
      obtain rfl : b7 = true := hd ⟨7,.data⟩ (by simp) rfl
      obtain rfl := f3_ rfl
      obtain rfl := f7_ rfl
      have heq := eq_pair x1 x2 y1 y2
      have hnb2 := HNB.out.symm
      go_simp
      exact hK _ _ ⟨_,_,_,_,_,_,_,_,_,_,_,_,_,_,_,_,_,_,rfl,rfl,hB,f0_,f1_,f2_,f3_,f4_,f5_,f6_,f7_,(fun _ => rfl)⟩
     | i + 9,ho,hli,hd => simp at ho
    rintro listed a' w' ⟨b0,b1,b2,b3,b4,b5,b6,b7,b8,u16,u17,u18,u19,u20,u21,u22,u23,u24,rfl,rfl,hB,f0_,f1_,f2_,f3_,f4_,f5_,f6_,f7_,f8_⟩ hr
    obtain rfl : b0 = true := ready_nil hr (i := 0) rfl (by first | (simp; done) | (simp; intro q; exact absurd q (by decide)))
    obtain rfl : b1 = true := ready_nil hr (i := 1) rfl (by first | (simp; done) | (simp; intro q; exact absurd q (by decide)))
    obtain rfl : b2 = true := ready_nil hr (i := 2) rfl (by first | (simp; done) | (simp; intro q; exact absurd q (by decide)))
    obtain rfl : b3 = true := ready_nil hr (i := 3) rfl (by first | (simp; done) | (simp; intro q; exact absurd q (by decide)))
    obtain rfl : b4 = true := ready_nil hr (i := 4) rfl (by first | (simp; done) | (simp; intro q; exact absurd q (by decide)))
    obtain rfl : b5 = true := ready_nil hr (i := 5) rfl (by first | (simp; done) | (simp; intro q; exact absurd q (by decide)))
    obtain rfl : b6 = true := ready_nil hr (i := 6) rfl (by first | (simp; done) | (simp; intro q; exact absurd q (by decide)))
    obtain rfl : b7 = true := ready_nil hr (i := 7) rfl (by first | (simp; done) | (simp; intro q; exact absurd q (by decide)))
    obtain rfl : b8 = true := ready_nil hr (i := 8) rfl (by first | (simp; done) | (simp; intro q; exact absurd q (by decide)))
    clear hr
    obtain rfl := f8_ rfl
    clear f0_ f1_ f2_ f3_ f4_ f5_ f6_ f7_
    have hb9 := bel_trans HBW.out hB
    by_cases he : (x1,x2) = (y1,y2)
    ·obtain rfl : nb = false := by
      obtain ⟨h1,h2⟩ := Prod.mk.inj he
      rw [HNB.out,decide_eq_true h1,decide_eq_true h2]; rfl
     have hs9 : decide (xs = ys) = decide (xs.drop (k + 1) = ys.drop (k + 1)) := by rw [HS.out,HD.out,HD2.out,eq_cons,decide_eq_true he,Bool.true_and]
     have HB9 := Lib.hid hb9; clear hb9
     have HS9 := Lib.hid hs9; clear hs9
     have HE := Lib.hid he; clear he
     go_wp2_with fail
     go_roundw
     case rel => exact ⟨k + 1,by omega,by go_num,HB9.out,HS9.out⟩
     case measure => simp [intOf]; omega
    ·obtain rfl : nb = true := by
      rw [HNB.out]
      by_cases h1 : x1 = y1
      ·have h2 : ¬ x2 = y2 := fun h2 => he (by rw [h1,h2])
       simp [h1,h2]
      ·simp [h1]
     have hs9 : decide (xs = ys) = false := by rw [HS.out,HD.out,HD2.out,eq_cons,decide_eq_false he,Bool.false_and]
     have HB9 := Lib.hid hb9; clear hb9
     have HS9 := Lib.hid hs9; clear hs9
     have HE := Lib.hid he; clear he
     go_wp2_with fail
     go_ret
     exact ⟨ret_bool HS9.out.symm,HB9.out⟩
   ·have hd := HA.out.stop (k := k) (by omega)
    have hd2 := HB.out.stop (k := k) (by omega)
    have HD := Lib.hid hd; clear hd
    have HD2 := Lib.hid hd2; clear hd2
    go_wp2
    go_ret
    exact ⟨ret_bool (by rw [HS.out,HD.out,HD2.out]; rfl),HBW.out⟩
 ·have he : xs ≠ ys := fun e => hne (by rw [la.out,lb.out,e])
  have HE := Lib.hid he; clear he
  go_enter Tryz.func16,Tryz.ntmps16
  go_wp2
  go_ret
  exact ⟨ret_bool (decide_eq_false HE.out).symm,Below.refl _ _⟩
end Go.Proofs.YtbfbkpoakmnlpaaGreat
namespace Go.Proofs.YtbfbkpoakmnlpaaGreat
open Go.RowKit
set_option maxRecDepth 100000 in
set_option maxHeartbeats 2000000 in
theorem around1_any (a1 a2 a3 ub n : Nat) (fr k b : Int) (back : List Int) (w : World) (h1 : w.cell? ⟨a1,0,none⟩ = some (.int .i64 fr)) (h2 : w.cell? ⟨a2,0,none⟩ = some (.slice (some ⟨ub,0,none⟩) n n)) (h3 : w.cell? ⟨a3,0,none⟩ = some (.int .i64 k))
  (hb : Blk w ub 3 (intC back)) (hl : back.length = n) (_hn : n ≤ 5000) (hr : fr < b → 0 ≤ b ∧ b < (n : Int)) :
  Calls Tryz.prog 51 #[.int .i64 b,.pointer (some ⟨a1,0,none⟩),.pointer (some ⟨a2,0,none⟩),.pointer (some ⟨a3,0,none⟩)] w fun e w' => e = .returned (.bool (decide (fr < b) && decide (nthZ back b = k))) ∧ Below w.heap.size w w' := by
 by_cases hf : fr < b
 ·obtain ⟨b0,b1⟩ := hr hf
  obtain ⟨bn,rfl⟩ : ∃ bn : Nat,b = (bn : Int) := ⟨b.toNat,by omega⟩
  obtain ⟨z,hz⟩ : ∃ z,z = nthZ back (bn : Int) := ⟨_,rfl⟩
  have m0 : w.cell? ⟨ub,bn,none⟩ = some (.int .i64 z) := by
   have e : back[bn]? = some z := by
    rw [hz]
    unfold nthZ
    rw [Int.toNat_natCast,List.getD_eq_getElem?_getD,List.getElem?_eq_getElem (by omega)]; rfl
   rw [hb.cell,intC_get,e]; rfl
  rw [← hz]
  have d1 : decide (fr < (bn : Int)) = true := decide_eq_true hf
  by_cases hk : z = k
  ·have d2 : decide (z = k) = true := decide_eq_true hk
   rw [d1,d2]
   have HB := Lib.hid hb; clear hb
   have HZ := Lib.hid hz; clear hz
   have HR := Lib.hid hr; clear hr
   go_enter Tryz.func51,Tryz.ntmps51
   go_wp2_with fail
   refine wp_region_later [(⟨a1,0,none⟩,.int .i64 fr),(⟨a2,0,none⟩,.slice (some ⟨ub,0,none⟩) n n),(⟨a3,0,none⟩,.int .i64 k),(⟨ub,bn,none⟩,.int .i64 z)] (by kernel_rfl) (by kernel_rfl) (by simp [go_sem, *]) ?_
   intro hk; simp only [List.forall_mem_cons] at hk; obtain ⟨k1_0,k1_1,k1_2,k1_3,kz⟩ := hk; clear kz
   repeat go_big_quiet_step (fail)
   refine wpQuiet_nil ?_
   rintro w2 ⟨u1,rfl⟩
   have HU1 := Lib.hid u1.h
   clear k1_0 k1_1 k1_2 k1_3
   go_wp2_with fail
   go_ret
   exact ⟨rfl,HU1.out⟩
  ·have d2 : decide (z = k) = false := decide_eq_false hk
   have d3 : (z == k) = false := by simpa using hk
   rw [d1,d2]
   have HB := Lib.hid hb; clear hb
   have HZ := Lib.hid hz; clear hz
   have HR := Lib.hid hr; clear hr
   go_enter Tryz.func51,Tryz.ntmps51
   go_wp2_with fail
   refine wp_region_later [(⟨a1,0,none⟩,.int .i64 fr),(⟨a2,0,none⟩,.slice (some ⟨ub,0,none⟩) n n),(⟨a3,0,none⟩,.int .i64 k),(⟨ub,bn,none⟩,.int .i64 z)] (by kernel_rfl) (by kernel_rfl) (by simp [go_sem, *]) ?_
   intro hk; simp only [List.forall_mem_cons] at hk; obtain ⟨k1_0,k1_1,k1_2,k1_3,kz⟩ := hk; clear kz
   repeat go_big_quiet_step (fail)
   refine wpQuiet_nil ?_
   rintro w2 ⟨u1,rfl⟩
   have HU1 := Lib.hid u1.h
   clear k1_0 k1_1 k1_2 k1_3
   go_wp2_with fail
   go_ret
   exact ⟨rfl,HU1.out⟩
 ·have d1 : decide (fr < b) = false := decide_eq_false hf
  rw [d1]
  have HB := Lib.hid hb; clear hb
  have HR := Lib.hid hr; clear hr
  go_enter Tryz.func51,Tryz.ntmps51
  go_wp2_with fail
  refine wp_region_later [(⟨a1,0,none⟩,.int .i64 fr),(⟨a2,0,none⟩,.slice (some ⟨ub,0,none⟩) n n),(⟨a3,0,none⟩,.int .i64 k)] (by kernel_rfl) (by kernel_rfl) (by simp [go_sem, *]) ?_
  intro hk; simp only [List.forall_mem_cons] at hk; obtain ⟨k1_0,k1_1,k1_2,kz⟩ := hk; clear kz
  repeat go_big_quiet_step (fail)
  refine wpQuiet_nil ?_
  rintro w2 ⟨u1,rfl⟩
  have HU1 := Lib.hid u1.h
  clear k1_0 k1_1 k1_2
  go_wp2_with fail
  go_ret
  exact ⟨rfl,HU1.out⟩
end Go.Proofs.YtbfbkpoakmnlpaaGreat
namespace Go.Proofs.YtbfbkpoakmnlpaaGreat
open Go.RowKit Go.Shelf
theorem idx_find {p : Int → Bool} {b : Int} : ∀ (xs : List Int) (k : Int),xs.find? p = some b → ∃ i : Nat,idxGo p k xs = k + i ∧ xs[i]? = some b
 | [],k,h => by simp at h
 | x :: r,k,h => by
  rw [List.find?_cons] at h
  by_cases hx : p x = true
  ·rw [hx] at h
   exact ⟨0,by rw [idxGo_cons,if_pos hx]; simp,by simpa using h⟩
  ·have hx' : p x = false := by simpa using hx
   rw [hx'] at h
   obtain ⟨i,e,g⟩ := idx_find r (k + 1) h
   exact ⟨i + 1,by rw [idxGo_cons,if_neg hx,e]; omega,by simpa using g⟩
def intoU (g : List (List Int)) (fr : Int) (a : Nat) (b : Nat) : List Int := if fr ≤ (b : Int) then ((List.range a).map fun (i : Nat) => (i : Int)).filter fun x => decide (fr ≤ x) && decide ((b : Int) ∈ rowZ g x) else []
theorem intoU_end (g : List (List Int)) (fr : Int) (b : Nat) : intoU g fr g.length b = intoL g fr (b : Int) := rfl
theorem intoU_low {g : List (List Int)} {fr : Int} {a : Nat} (h : (a : Int) ≤ fr) (b : Nat) : intoU g fr a b = [] := by
 unfold intoU
 split
 ·refine List.filter_eq_nil_iff.2 fun x hx => ?_
  obtain ⟨i,hi,rfl⟩ := List.mem_map.1 hx
  have := List.mem_range.1 hi
  simp; omega
 ·rfl
def intoV (g : List (List Int)) (fr : Int) (a j : Nat) (b : Nat) : List Int := intoU g fr a b ++ (if fr ≤ (b : Int) ∧ (b : Int) ∈ (rowZ g (a : Int)).take j then [(a : Int)] else [])
theorem intoV_zero (g : List (List Int)) (fr : Int) (a : Nat) : intoV g fr a 0 = intoU g fr a := by
 funext b; unfold intoV; simp
theorem intoV_end {g : List (List Int)} {fr : Int} {a : Nat} (h : fr ≤ (a : Int)) : intoV g fr a (rowZ g (a : Int)).length = intoU g fr (a + 1) := by
 funext b
 unfold intoV intoU
 rw [List.take_length,List.range_succ,List.map_append,List.filter_append]
 by_cases hb : fr ≤ (b : Int)
 ·by_cases hm : (b : Int) ∈ rowZ g (a : Int)
  ·simp [hb,hm,h]
  ·simp [hb,hm]
 ·simp [hb]
theorem intoV_step {g : List (List Int)} {fr : Int} {a j : Nat} {b : Nat} (hn : (rowZ g (a : Int)).Nodup) (hj : (rowZ g (a : Int))[j]? = some (b : Int)) : intoV g fr a (j + 1) = if fr ≤ (b : Int) then updG (intoV g fr a j) b (intoV g fr a j b ++ [(a : Int)]) else intoV g fr a j := by
 have ht : (rowZ g (a : Int)).take (j + 1) = (rowZ g (a : Int)).take j ++ [(b : Int)] := by rw [List.take_add_one,hj]; rfl
 have hnb : (b : Int) ∉ (rowZ g (a : Int)).take j := fun hm => by
  have h2 : ((rowZ g (a : Int)).take (j + 1)).Nodup := hn.sublist (List.take_sublist _ _)
  rw [ht,List.nodup_append] at h2
  exact h2.2.2 _ hm _ (by simp) rfl
 by_cases hf : fr ≤ (b : Int)
 ·rw [if_pos hf]
  funext c
  unfold updG intoV
  by_cases e : c = b
  ·subst e
   simp [ht,hf,hnb]
  ·have e2 : ¬ (c : Int) = (b : Int) := by omega
   simp [ht,e,e2]
 ·rw [if_neg hf]
  funext c
  unfold intoV
  by_cases e : c = b
  ·subst e; simp [hf]
  ·have e2 : ¬ (c : Int) = (b : Int) := by omega
   simp [ht,e2]
theorem bIter_go {into : Int → List Int} {fr most : Int} {s : BS} (h : bGo fr most s = true) : bIter into fr most (most + 1 - s.k).toNat s = bIter into fr most (most + 1 - (bStep into s).k).toNat (bStep into s) := by
 have hk : (bStep into s).k = s.k + 1 := rfl
 have hm : s.k ≤ most := by unfold bGo at h; simp only [Bool.and_eq_true,decide_eq_true_eq] at h; omega
 obtain ⟨n,hn⟩ : ∃ n,(most + 1 - s.k).toNat = n + 1 := ⟨(most - s.k).toNat,by omega⟩
 rw [hn,bIter,if_pos h,hk,show (most + 1 - (s.k + 1)).toNat = n by omega]
theorem bIter_stop {into : Int → List Int} {fr most : Int} {s : BS} (h : bGo fr most s = false) : ∀ n,bIter into fr most n s = s
 | 0 => rfl
 | n + 1 => by rw [bIter,if_neg (by rw [h]; simp)]
theorem bRow_take {into : Int → List Int} {k : Int} {s : List Int × List Int} {now : List Int} {i : Nat} {b : Int} (h : now[i]? = some b) : (now.take (i + 1)).foldl (bRow into k) s = bRow into k ((now.take i).foldl (bRow into k) s) b := by
 rw [List.take_add_one,h,List.foldl_append]; rfl
theorem bAtom_take {k : Int} {s : List Int × List Int} {l : List Int} {i : Nat} {a : Int} (h : l[i]? = some a) : (l.take (i + 1)).foldl (bAtom k) s = bAtom k ((l.take i).foldl (bAtom k) s) a := by
 rw [List.take_add_one,h,List.foldl_append]; rfl
def slLen : Value → Nat
 | .slice _ l _ => l
 | _ => 0
theorem own_one {W : World} {base g : Nat} {y : Int} (h : Blk W g 3 #[.int .i64 y]) (hb : base ≤ g) : OwnI W base (.slice (some ⟨g,0,none⟩) 1 1) 1 [y] :=
 ⟨rfl,by simp,.inr ⟨g,1,#[.int .i64 y],rfl,hb,h,Nat.le_refl _,by unfold maxLen; omega,rfl,rfl⟩⟩
end Go.Proofs.YtbfbkpoakmnlpaaGreat
namespace Go.Proofs.YtbfbkpoakmnlpaaGreat
open Go.RowKit Go.Shelf
structure ArS (w : World) (gl fr : Nat) (W : World) (back : List Int) (U : Nat → List Int) (us : Nat → Value) (ls : Nat → Nat) : Prop where
 pf : Blk W w.heap.size 3 #[.int .i64 (fr : Int)]
 bk : Blk W (w.heap.size + 1) 3 (intC back)
 bb : Blk W (w.heap.size + 2) 23 #[.slice (some ⟨w.heap.size + 1,0,none⟩) gl gl]
 gr : GrowI W (w.heap.size + 4) (w.heap.size + 3) gl U us ls
 bel : Below w.heap.size w W
 sz : w.heap.size + 4 ≤ W.heap.size
theorem ArS.ext {w : World} {gl fr : Nat} {W W' : World} {back : List Int} {U : Nat → List Int} {us : Nat → Value} {ls : Nat → Nat} (h : ArS w gl fr W back U us ls) (hb : Below W.heap.size W W') : ArS w gl fr W' back U us ls :=
 ⟨h.pf.bel hb,h.bk.bel hb,h.bb.bel hb,h.gr.bel hb,bel_trans h.bel hb,Nat.le_trans h.sz hb.size⟩
theorem ArS.app {w : World} {gl fr : Nat} {W W' : World} {back : List Int} {U : Nat → List Int} {us : Nat → Value} {ls : Nat → Nat} (h : ArS w gl fr W back U us ls) {a : Nat} (ha : a < gl) {v' : Value} {l' : Nat} {xs : List Int}
  (ho : OwnI W' (w.heap.size + 4) v' l' xs) (hg : W.grownBy W' (us a).ownBlock) (hv : ∀ k,v'.ownBlock = some k → (us a).ownBlock = some k ∨ W.heap.size ≤ k) :
  ArS w gl fr (W'.setCell ⟨w.heap.size + 3,a,none⟩ v') back (updG U a xs) (fun j => if j = a then v' else us j) (fun j => if j = a then l' else ls j) := by
 have hlow : ∀ k,k < w.heap.size + 4 → some k ≠ (us a).ownBlock := fun k hk e => by have := ((h.gr.own a ha).2.lt k e.symm).1; omega
 have hb : Below w.heap.size w W' := bel_grown h.bel hg h.bel.size (fun k hk => by have := ((h.gr.own a ha).2.lt k hk).1; omega)
 exact ⟨(h.pf.grown hg (hlow _ (by omega))).far (by simp) _,(h.bk.grown hg (hlow _ (by omega))).far (by simp) _,(h.bb.grown hg (hlow _ (by omega))).far (by simp) _,h.gr.app (by omega) ha ho hg hv,
  Kept.below hb ((Kept.refl [w.heap.size + 3] W').set (.inl (by simp)) _) hb.size (by simp),by have := h.sz; have := hg.size; simp [World.setCell]; omega⟩
theorem ArS.setB {w : World} {gl fr : Nat} {W : World} {back : List Int} {U : Nat → List Int} {us : Nat → Value} {ls : Nat → Nat} (h : ArS w gl fr W back U us ls) (a : Nat) (k : Int) :
  ArS w gl fr (W.setCell ⟨w.heap.size + 1,a,none⟩ (.int .i64 k)) (updZ back (a : Int) k) U us ls := by
 have hk : Kept [w.heap.size + 1] W (W.setCell ⟨w.heap.size + 1,a,none⟩ (.int .i64 k)) := (Kept.refl _ _).set (.inl (by simp)) _
 have hb := h.bk.set_ a (.int .i64 k)
 rw [updZ_cells back (a : Int) k (by omega) a rfl] at hb
 exact ⟨h.pf.far (by simp) _,hb,h.bb.far (by simp) _,h.gr.keptS hk (by simp) (by simp),Kept.below h.bel hk h.bel.size (by simp),Nat.le_trans h.sz hk.size⟩
theorem ArS.low {w : World} {gl fr B : Nat} {W W' : World} {back : List Int} {U : Nat → List Int} {us : Nat → Value} {ls : Nat → Nat} (h : ArS w gl fr W back U us ls) (hB : w.heap.size + 4 ≤ B) (hus : ∀ a,a < gl → ∀ q,(us a).ownBlock = some q → q < B) (hb : Below B W W') : ArS w gl fr W' back U us ls :=
 ⟨(hb.block _ (by omega)).trans h.pf,(hb.block _ (by omega)).trans h.bk,(hb.block _ (by omega)).trans h.bb,
  ⟨(hb.block _ (by omega)).trans h.gr.blk,fun a ha => by
   obtain ⟨h1,h2⟩ := h.gr.own a ha
   refine ⟨h1,h2.1,?_⟩
   rcases h2.2 with q | ⟨g,cap,cur,e,q1,q2,q3⟩
   ·exact .inl q
   ·exact .inr ⟨g,cap,cur,e,q1,(hb.block g (hus a ha g (by rw [e]; rfl))).trans q2,q3⟩,h.gr.ne⟩,
  h.bel.trans (hb.mono (by omega)),Nat.le_trans h.sz hb.size⟩
theorem g_get (g : List (List Int)) (k : Nat) (hk : k < g.length) : g[k]? = some (rowZ g (k : Int)) := by
 unfold rowZ
 rw [Int.toNat_natCast,List.getD_eq_getElem?_getD,List.getElem?_eq_getElem hk]; rfl
theorem intoV_len {g : List (List Int)} {fr : Int} (a j b : Nat) : (intoV g fr a j b).length ≤ a + 1 := by
 unfold intoV intoU
 rw [List.length_append]
 have h1 : ∀ (p : Int → Bool),(((List.range a).map fun (i : Nat) => (i : Int)).filter p).length ≤ a := fun p => by
  have := List.length_filter_le p ((List.range a).map fun (i : Nat) => (i : Int))
  simpa using this
 split <;> split <;> simp <;> first | omega | (have := h1 fun x => decide (fr ≤ x) && decide ((b : Int) ∈ rowZ g x); omega)
set_option maxRecDepth 100000 in
set_option maxHeartbeats 8000000 in
theorem around_any (gA : Option Addr) (gl gc : Nat) (g : List (List Int)) (fr most : Nat) (w : World) (hg : GOk g) (hnd : ∀ a,(rowZ g a).Nodup) (hs : SlIs (slR intR) w gA gl gc g) (hl4 : gl ≤ 4001) (hf1 : 1 ≤ fr) (hf2 : fr < gl) (hm : most ≤ 4001) :
  Calls Tryz.prog 27 #[.slice gA gl gc,.int .i64 (fr : Int),.int .i64 (most : Int)] w fun e w' => ∃ A l c,e = .returned (.slice A l c) ∧ SlIs intR w' A l c (aroundT g (fr : Int) (most : Int)) ∧ Frs w.heap.size A l ∧ Below w.heap.size w w' := by
 have hlc := hs.cap
 have hlm := hs.max
 have hlen := hs.len
 have hmk : ∀ W : World,(Instr.makeSlice 23 (.int .i64 (gl : Int)) (.int .i64 (gl : Int))).run Tryz.prog W = .ok (.slice (some ⟨W.heap.size,0,none⟩) gl gl) (W.alloc (.cells (intC (List.replicate gl 0)) 3)) := fun W => by
  have h := run_make_row' (P := Tryz.prog) 23 3 (.int .i64 0) 8 Tryz.underlying23 info_int rfl .i64 .i64 gl (by omega) (by omega) W
  have e : madeCells #[Value.int .i64 0] gl = intC (List.replicate gl 0) := by
   unfold madeCells intC
   apply Array.ext
   ·simp
   ·intro i h1 h2
    simp [Nat.mod_one]
  rwa [e] at h
 have hmg := fun W : World => make_graph gl (by omega) W
 have HS := Lib.hid hs; clear hs
 have HLEN := Lib.hid hlen; clear hlen
 have HG := Lib.hid hg; clear hg
 have HND := Lib.hid hnd; clear hnd
 go_enter Tryz.func27,Tryz.ntmps27
 go_wp2_with fail
 have hS : ArS w gl fr ((((w.alloc (.cells #[.int .i64 (fr : Int)] 3)).alloc (.cells (intC (List.replicate gl 0)) 3)).alloc (.cells #[.slice (some ⟨w.heap.size + 1,0,none⟩) gl gl] 23)).alloc (.cells (valCells gl fun _ => .slice none 0 0) 23)) (List.replicate gl 0) (intoU g (fr : Int) fr) (fun _ => .slice none 0 0) (fun _ => 0) := by
  have e : intoU g (fr : Int) fr = fun _ => [] := funext fun b => intoU_low (Int.le_refl _) b
  rw [e]
  exact ⟨(((blk_new rfl _ _).alloc _).alloc _).alloc _,((blk_new (by simp) _ _).alloc _).alloc _,(blk_new (by simp) _ _).alloc _,GrowI.new (blk_new (by simp) _ _),
   bel_trans (bel_trans (bel_trans (bel_alloc _ _) (bel_alloc _ _)) (bel_alloc _ _)) (bel_alloc _ _),by simp⟩
 generalize ((((w.alloc (.cells #[.int .i64 (fr : Int)] 3)).alloc (.cells (intC (List.replicate gl 0)) 3)).alloc (.cells #[.slice (some ⟨w.heap.size + 1,0,none⟩) gl gl] 23)).alloc (.cells (valCells gl fun _ => .slice none 0 0) 23)) = W1 at *
 clear hmk hmg
 have HS_ := Lib.hid hS
 clear hS
 go_loopw [9] (fun t wr => ∃ (a : Nat) (us : Nat → Value) (ls : Nat → Nat),fr ≤ a ∧ a ≤ gl ∧ t = .int .i64 (a : Int) ∧ ArS w gl fr wr (List.replicate gl 0) (intoU g (fr : Int) a) us ls) (fun t _ => gl - (intOf t).toNat)
 case atStart => exact ⟨fr,_,_,Nat.le_refl _,by omega,rfl,HS_.out⟩
 case round =>
  obtain ⟨a,us,ls,ha1,ha2,rfl,ho⟩ := hrel
  obtain ⟨wo,rfl⟩ : ∃ wo : World,wo = wr := ⟨_,rfl⟩
  by_cases hlt : a < gl
  ·have hrow := g_get g a (by have := HLEN.out; omega)
   obtain ⟨rb,ro,xA,xl,xc,rfl,lx0,cx0,hx⟩ := HS.out.set hrow
   have cx := (ho.bel.cell (World.block_lt_of_cell? _ _ cx0)).trans cx0
   clear cx0
   have k0 : (0 : Int) ≤ (a : Int) := by omega
   have k1 : (a : Int) < (gl : Int) := by omega
   have hxc := hx.cap
   have hxm := hx.max
   have hxl := hx.len
   have HROW := Lib.hid hrow; clear hrow
   have HX := Lib.hid hx; clear hx
   have HXL := Lib.hid hxl; clear hxl
   have HO := Lib.hid ho; clear ho
   go_wp2_with fail
   clear cx
   go_loopw [41] (fun t wr => ∃ (j : Nat) (us : Nat → Value) (ls : Nat → Nat),j ≤ xl ∧ t = .int .i64 (j : Int) ∧ ArS w gl fr wr (List.replicate gl 0) (intoV g (fr : Int) a j) us ls) (fun t _ => xl - (intOf t).toNat)
   case atStart => exact ⟨0,us,ls,Nat.zero_le _,rfl,by rw [intoV_zero]; exact HO.out⟩
   case round =>
    obtain ⟨j,us2,ls2,hj,rfl,ho2⟩ := hrel
    obtain ⟨wi,rfl⟩ : ∃ wi : World,wi = wr := ⟨_,rfl⟩
    by_cases hjl : j < xl
    ·obtain ⟨b,hbj,-⟩ := HX.out.drop hjl
     obtain ⟨ab,ao,rfl,la,ca,a64⟩ := (HX.out.ext ho2.bel).int hbj
     have hbe := HG.out.ent _ b (List.mem_of_getElem? hbj)
     have hbl := HLEN.out
     obtain ⟨bn,rfl⟩ : ∃ bn : Nat,b = (bn : Int) := ⟨b.toNat,by omega⟩
     have hbn : bn < gl := by omega
     have j0 : (0 : Int) ≤ (j : Int) := by omega
     have j1 : (j : Int) < (xl : Int) := by omega
     have q0 : (0 : Int) ≤ (bn : Int) := by omega
     have q1 : (bn : Int) < (gl : Int) := by omega
     have hst := intoV_step (fr := (fr : Int)) (HND.out _) hbj
     have mf : wi.cell? ⟨w.heap.size,0,none⟩ = some (.int .i64 (fr : Int)) := ho2.pf.cell 0
     by_cases hfb : (fr : Int) ≤ (bn : Int)
     ·rw [if_pos hfb] at hst
      have hlen2 : ls2 bn < 17592186044416 := by
       have h1 := (ho2.gr.own bn hbn).1
       have h2 := intoV_len (g := g) (fr := (fr : Int)) a j bn
       omega
      obtain ⟨v',w3,hrun,hown,hg3,hat⟩ := app1 (ho2.gr.own bn hbn) (a : Int) hlen2 ho2.sz 23
      have hub : Blk w3 (w.heap.size + 3) 23 (valCells gl us2) := ho2.gr.blk.grown hg3 (fun e => by have := ((ho2.gr.own bn hbn).2.lt _ e.symm).1; omega)
      obtain ⟨A,l2,c,rfl⟩ := hown.shape
      have ho3 := ho2.app hbn hown hg3 hat
      have mi : wi.cell? ⟨w.heap.size + 3,bn,none⟩ = some (us2 bn) := ho2.gr.cell hbn
      have hbl1 := bel_alloc wi (.cells #[.int .i64 (a : Int)] 3)
      have m3 : w3.cell? ⟨w.heap.size + 3,bn,none⟩ = some (us2 bn) := by rw [hub.cell,valCells_get _ _ _ hbn]
      have hz := hub.frozen bn
      rw [← hst] at ho3
      have HBJ := Lib.hid hbj; clear hbj
      have HST := Lib.hid hst; clear hst
      have HO2 := Lib.hid ho2; clear ho2
      have HRUN := Lib.hid hrun; clear hrun
      have HOWN := Lib.hid hown; clear hown
      have HG3 := Lib.hid hg3; clear hg3
      have HAT := Lib.hid hat; clear hat
      have HUB := Lib.hid hub; clear hub
      have HO3 := Lib.hid ho3; clear ho3
      have A64 := Lib.hid a64; clear a64
      have HBE := Lib.hid hbe; clear hbe
      have HBL1 := Lib.hid hbl1; clear hbl1
      have HBL := Lib.hid hbl; clear hbl
      go_wp2_with (at_builtin; refine wpList_append_run rfl _ _ _ rfl _ _ rfl rfl _ _ HRUN.out ?_)
      go_roundw
      case rel => exact ⟨j + 1,_,_,by omega,by go_num,HO3.out⟩
      case measure => simp [intOf]; omega
     ·rw [if_neg hfb] at hst
      rw [← hst] at ho2
      have HBJ := Lib.hid hbj; clear hbj
      have HST := Lib.hid hst; clear hst
      have HO2 := Lib.hid ho2; clear ho2
      have A64 := Lib.hid a64; clear a64
      have HBE := Lib.hid hbe; clear hbe
      have HBL := Lib.hid hbl; clear hbl
      go_wp2_with fail
      go_roundw
      case rel => exact ⟨j + 1,us2,ls2,by omega,by go_num,HO2.out⟩
      case measure => simp [intOf]; omega
    ·obtain rfl : xl = j := by omega
     rw [HXL.out,intoV_end (by omega)] at ho2
     have HO2 := Lib.hid ho2; clear ho2
     go_wp2_with fail
     go_roundw
     case rel => exact ⟨a + 1,_,_,by omega,by omega,by go_num,HO2.out⟩
     case measure => simp [intOf]; omega
  ·obtain rfl : gl = a := by omega
   have mf : wo.cell? ⟨w.heap.size,0,none⟩ = some (.int .i64 (fr : Int)) := ho.pf.cell 0
   have hal := bel_alloc wo (.cells #[.int .i64 (fr : Int)] 3)
   have hx0 : Blk (wo.alloc (.cells #[.int .i64 (fr : Int)] 3)) wo.heap.size 3 #[.int .i64 (fr : Int)] := blk_new rfl _ _
   have hsl := sl_one' hx0 (show I64 (fr : Int) by unfold I64; omega)
   have ho3 := ho.ext hal
   have hsz := ho.sz
   have hoff : Off [w.heap.size + 1] (some ⟨wo.heap.size,0,none⟩) 1 := fun _ ad e hm => by
    cases e
    simp at hm; omega
   have hbi := bInit_ok g (fr : Int)
   rw [← HLEN.out] at hbi
   have HO := Lib.hid ho; clear ho
   have HAL := Lib.hid hal; clear hal
   have HX0 := Lib.hid hx0; clear hx0
   have HSL := Lib.hid hsl; clear hsl
   have HO3 := Lib.hid ho3; clear ho3
   have HOFF := Lib.hid hoff; clear hoff
   have HBI := Lib.hid hbi; clear hbi
   go_wp2_with fail
   clear mf
   generalize wo.alloc (.cells #[.int .i64 (fr : Int)] 3) = X2 at *
   generalize wo.heap.size = nb at *
   go_loopw [12,13] (fun v t wr => ∃ (s : BS) (A : Option Addr) (l c : Nat),v = .slice A l c ∧ t = .int .i64 s.k ∧ SlIs intR wr A l c s.now ∧ Off [w.heap.size + 1] A l ∧ ArS w gl fr wr s.back (intoU g (fr : Int) gl) us ls ∧ BInv g (fr : Int) s ∧ s.k ≤ (most : Int) + 1 ∧ (∀ x ∈ s.now,0 ≤ x ∧ x < (gl : Int)) ∧ bIter (intoL g (fr : Int)) (fr : Int) (most : Int) most (bInit gl (fr : Int)) = bIter (intoL g (fr : Int)) (fr : Int) (most : Int) ((most : Int) + 1 - s.k).toNat s) (fun _ t _ => most + 1 - (intOf t).toNat)
   case atStart => exact ⟨bInit gl (fr : Int),_,_,_,rfl,rfl,HSL.out,HOFF.out,HO3.out,HBI.out,by show (1 : Int) ≤ _; omega,fun x hx => by
    have hx : x ∈ [(fr : Int)] := hx
    simp at hx; omega,by rw [show ((most : Int) + 1 - (bInit gl (fr : Int)).k).toNat = most by show ((most : Int) + 1 - 1).toNat = most; omega]⟩
   case round =>
    obtain ⟨s,A,l,c,rfl,rfl,hnow,hno,hos,hinv,hkm,hnr,hit⟩ := hrel
    obtain ⟨wl,rfl⟩ : ∃ wl : World,wl = wr := ⟨_,rfl⟩
    have hk1 := hinv.k1
    have hbl := hos.bk
    obtain ⟨z,hz⟩ : ∃ z,z = nthZ s.back (fr : Int) := ⟨_,rfl⟩
    have mf : wl.cell? ⟨w.heap.size,0,none⟩ = some (.int .i64 (fr : Int)) := hos.pf.cell 0
    have mb : wl.cell? ⟨w.heap.size + 1 + 1,0,none⟩ = some (.slice (some ⟨w.heap.size + 1,0,none⟩) gl gl) := hos.bb.cell 0
    have mz : wl.cell? ⟨w.heap.size + 1,fr,none⟩ = some (.int .i64 z) := by
     have hbk := hinv.len
     have e : s.back[fr]? = some z := by
      rw [hz]
      unfold nthZ
      rw [Int.toNat_natCast,List.getD_eq_getElem?_getD,List.getElem?_eq_getElem (by have := HLEN.out; omega)]; rfl
     rw [hos.bk.cell,intC_get,e]; rfl
    have hlc2 := hnow.cap
    have hlm2 := hnow.max
    have hll := hnow.len
    by_cases h1 : 0 < l
    ·by_cases h2 : s.k ≤ (most : Int)
     ·by_cases h3 : z = 0
      ·subst h3
       have hgo : bGo (fr : Int) (most : Int) s = true := by
        unfold bGo
        have hne : s.now ≠ [] := fun e => by rw [e] at hll; simp at hll; omega
        rw [← hz]
        simp [hne,h2]
       have l1 : (0 : Int) < (l : Int) := by omega
       have hus : ∀ a,a < gl → ∀ q,(us a).ownBlock = some q → q < wl.heap.size := fun a ha q hq => ((hos.gr.own a ha).2.lt q hq).2
       have hsz4 := hos.sz
       have hzb : zerN s.back ≤ gl := Nat.le_trans (List.length_filter_le _ _) (by have := hinv.len; have := HLEN.out; omega)
       have hblen : s.back.length = gl := by rw [hinv.len,← HLEN.out]
       have hIN : ∀ bn : Nat,intoU g (fr : Int) gl bn = intoL g (fr : Int) (bn : Int) := fun bn => by rw [HLEN.out]; exact intoU_end g _ bn
       have HNOW := Lib.hid hnow; clear hnow
       have HNO := Lib.hid hno; clear hno
       have HOS := Lib.hid hos; clear hos
       have HINV := Lib.hid hinv; clear hinv
       have HNR := Lib.hid hnr; clear hnr
       have HIT := Lib.hid hit; clear hit
       have HZ := Lib.hid hz; clear hz
       have HBL := Lib.hid hbl; clear hbl
       have HGO := Lib.hid hgo; clear hgo
       have HUS := Lib.hid hus; clear hus
       have HZB := Lib.hid hzb; clear hzb
       have HBLEN := Lib.hid hblen; clear hblen
       have HIN := Lib.hid hIN; clear hIN
       have HLL := Lib.hid hll; clear hll
       go_wp2_with fail
       clear mf mb mz
       go_loopw [14,80] (fun v t wr => ∃ (i ln : Nat) (bk nx : List Int),i ≤ l ∧ t = .int .i64 (i : Int) ∧ OwnI wr wl.heap.size v ln nx ∧ ArS w gl fr wr bk (intoU g (fr : Int) gl) us ls ∧ (s.now.take i).foldl (bRow (intoL g (fr : Int)) s.k) (s.back,[]) = (bk,nx) ∧ Kept [w.heap.size + 1] wl wr ∧ bk.length = gl ∧ nx.length + zerN bk ≤ gl ∧ ∀ x ∈ nx,0 ≤ x ∧ x < (gl : Int)) (fun _ t _ => l - (intOf t).toNat)
       case atStart => exact ⟨0,0,s.back,[],Nat.zero_le _,rfl,OwnI.nil _ _,HOS.out,rfl,Kept.refl _ _,HBLEN.out,by simpa using HZB.out,by simp⟩
       case round =>
        obtain ⟨i_,ln,bk,nx,hi,rfl,hon,ho4,hst,hk4,hbl4,hzn,hnx⟩ := hrel
        obtain ⟨wi,rfl⟩ : ∃ wi : World,wi = wr := ⟨_,rfl⟩
        by_cases hil : i_ < l
        ·obtain ⟨b,hbi,-⟩ := HNOW.out.drop hil
         obtain ⟨ab,ao,rfl,la,ca,a64⟩ := (HNOW.out.keptM hk4 HNO.out).int hbi
         have hbr := HNR.out b (List.mem_of_getElem? hbi)
         obtain ⟨bn,rfl⟩ : ∃ bn : Nat,b = (bn : Int) := ⟨b.toNat,by omega⟩
         have hbn : bn < gl := by omega
         have j0 : (0 : Int) ≤ (i_ : Int) := by omega
         have j1 : (i_ : Int) < (l : Int) := by omega
         have q0 : (0 : Int) ≤ (bn : Int) := by omega
         have q1 : (bn : Int) < (gl : Int) := by omega
         have mi : wi.cell? ⟨w.heap.size + 1 + 1 + 1,bn,none⟩ = some (us bn) := ho4.gr.cell hbn
         have hin64 : ∀ x ∈ intoU g (fr : Int) gl bn,I64 x := fun x hx => by
          rw [HIN.out] at hx
          have := into_mem.1 hx
          have := HLEN.out
          unfold I64; omega
         have hlsn : ls bn ≤ 17592186044416 := by
          have h1 := (ho4.gr.own bn hbn).1
          have h2 := intoV_len (g := g) (fr := (fr : Int)) gl 0 bn
          rw [intoV_zero] at h2
          omega
         obtain ⟨rA,rc,hre,hrs⟩ := (ho4.gr.own bn hbn).sl hlsn hin64
         rw [hre] at mi
         obtain ⟨xl,hxl⟩ : ∃ xl,xl = ls bn := ⟨_,rfl⟩
         rw [← hxl] at mi hre hrs
         have hrc := hrs.cap
         have hrm := hrs.max
         have hrl := hrs.len
         have HBI := Lib.hid hbi; clear hbi
         have HBR := Lib.hid hbr; clear hbr
         have HON := Lib.hid hon; clear hon
         have HO4 := Lib.hid ho4; clear ho4
         have HST := Lib.hid hst; clear hst
         have HK4 := Lib.hid hk4; clear hk4
         have HBL4 := Lib.hid hbl4; clear hbl4
         have HZN := Lib.hid hzn; clear hzn
         have HNX := Lib.hid hnx; clear hnx
         have A64 := Lib.hid a64; clear a64
         have HIN64 := Lib.hid hin64; clear hin64
         have HRE := Lib.hid hre; clear hre
         have HRS := Lib.hid hrs; clear hrs
         have HXL := Lib.hid hxl; clear hxl
         have HRL := Lib.hid hrl; clear hrl
         go_wp2_with fail
         clear mi ca
         go_loopw [14,89] (fun v t wr => ∃ (j ln : Nat) (bk2 nx2 : List Int),j ≤ xl ∧ t = .int .i64 (j : Int) ∧ OwnI wr wl.heap.size v ln nx2 ∧ ArS w gl fr wr bk2 (intoU g (fr : Int) gl) us ls ∧ ((intoL g (fr : Int) (bn : Int)).take j).foldl (bAtom s.k) (bk,nx) = (bk2,nx2) ∧ Kept [w.heap.size + 1] wl wr ∧ bk2.length = gl ∧ nx2.length + zerN bk2 ≤ gl ∧ ∀ x ∈ nx2,0 ≤ x ∧ x < (gl : Int)) (fun _ t _ => xl - (intOf t).toNat)
         case atStart => exact ⟨0,ln,bk,nx,Nat.zero_le _,rfl,HON.out,HO4.out,rfl,HK4.out,HBL4.out,HZN.out,HNX.out⟩
         case round =>
          obtain ⟨j,ln2,bk2,nx2,hj,rfl,hon2,ho5,hst2,hk5,hbl5,hzn2,hnx2⟩ := hrel
          obtain ⟨w5,rfl⟩ : ∃ w5 : World,w5 = wr := ⟨_,rfl⟩
          obtain ⟨A2,l2,c2,rfl⟩ := hon2.shape
          by_cases hjl : j < xl
          ·have hrs2 : SlIs intR w5 rA xl rc (intoU g (fr : Int) gl bn) := by
            obtain ⟨A3,c3,e3,h3⟩ := (ho5.gr.own bn hbn).sl hlsn HIN64.out
            rw [HRE.out] at e3
            rw [← HXL.out] at e3 h3
            cases e3; exact h3
           obtain ⟨y,hyj,-⟩ := hrs2.drop hjl
           obtain ⟨ab2,ao2,rfl,lb,cb,b64⟩ := hrs2.int hyj
           have hyi := List.mem_of_getElem? hyj
           rw [HIN.out] at hyi
           have hyr := into_mem.1 hyi
           have hgl := HLEN.out
           obtain ⟨yn,rfl⟩ : ∃ yn : Nat,y = (yn : Int) := ⟨y.toNat,by omega⟩
           have hyn : yn < gl := by omega
           have hbt := bAtom_take (k := s.k) (s := (bk,nx)) (l := intoL g (fr : Int) (bn : Int)) (i := j) (a := (yn : Int)) (by rw [← HIN.out]; exact hyj)
           rw [hst2] at hbt
           unfold bAtom at hbt
           obtain ⟨z,hz⟩ : ∃ z,z = nthZ bk2 (yn : Int) := ⟨_,rfl⟩
           have j0 : (0 : Int) ≤ (j : Int) := by omega
           have j1 : (j : Int) < (xl : Int) := by omega
           have q0 : (0 : Int) ≤ (yn : Int) := by omega
           have q1 : (yn : Int) < (gl : Int) := by omega
           have mb : w5.cell? ⟨w.heap.size + 1 + 1,0,none⟩ = some (.slice (some ⟨w.heap.size + 1,0,none⟩) gl gl) := ho5.bb.cell 0
           have mz : w5.cell? ⟨w.heap.size + 1,yn,none⟩ = some (.int .i64 z) := by
            have e : bk2[yn]? = some z := by
             rw [hz]
             unfold nthZ
             rw [Int.toNat_natCast,List.getD_eq_getElem?_getD,List.getElem?_eq_getElem (by omega)]; rfl
            rw [ho5.bk.cell,intC_get,e]; rfl
           by_cases hz0 : z = 0
           ·subst hz0
            simp only [← hz,if_true] at hbt
            have hk1' : Kept [w.heap.size + 1] w5 (w5.setCell ⟨w.heap.size + 1,yn,none⟩ (.int .i64 s.k)) := (Kept.refl _ _).set (.inl (by simp)) _
            have hso := ho5.setB yn s.k
            have hon3 := hon2.keptS hk1' (fun k hk hm => by
             have := (hon2.2.lt k hk).1
             simp at hm; omega)
            have hsz5 : wl.heap.size ≤ w5.heap.size := hk5.size
            have hl2 := hon2.len
            obtain ⟨v',w3,hrun,hown,hg3,hat⟩ := app1 hon3 (yn : Int) (by omega) (Nat.le_trans hk5.size hk1'.size) 23
            have hsc : (w5.setCell ⟨w.heap.size + 1,yn,none⟩ (.int .i64 s.k)).heap.size = w5.heap.size := by simp
            rw [hsc] at hrun
            have hb3 : Below wl.heap.size (w5.setCell ⟨w.heap.size + 1,yn,none⟩ (.int .i64 s.k)) w3 := bel_grown (Below.refl _ _) hg3 (Nat.le_trans hk5.size hk1'.size) (fun k hk => (hon3.2.lt k hk).1)
            have hsw := hso.low hsz4 HUS.out hb3
            have hk6 := (hk5.trans hk1').grown hg3 (fun k hk => .inr (hon3.2.lt k hk).1)
            have hvs := visN_set bk2 yn s.k (by omega) (by unfold nthZ at hz; rw [Int.toNat_natCast] at hz; exact hz.symm) (by omega)
            have hfz : w5.frozen? ⟨w.heap.size + 1,yn,none⟩ = false := ho5.bk.frozen yn
            obtain ⟨A4,l4,c4,rfl⟩ := hown.shape
            have HYJ := Lib.hid hyj; clear hyj
            have HBT := Lib.hid hbt; clear hbt
            have HST2 := Lib.hid hst2; clear hst2
            have HON2 := Lib.hid hon2; clear hon2
            have HO5 := Lib.hid ho5; clear ho5
            have HK5 := Lib.hid hk5; clear hk5
            have HBL5 := Lib.hid hbl5; clear hbl5
            have HZN2 := Lib.hid hzn2; clear hzn2
            have HNX2 := Lib.hid hnx2; clear hnx2
            have HZ := Lib.hid hz; clear hz
            have HK1' := Lib.hid hk1'; clear hk1'
            have HSO := Lib.hid hso; clear hso
            have HON3 := Lib.hid hon3; clear hon3
            have HRUN := Lib.hid hrun; clear hrun
            have HOWN := Lib.hid hown; clear hown
            have HG3 := Lib.hid hg3; clear hg3
            have HAT := Lib.hid hat; clear hat
            have HB3 := Lib.hid hb3; clear hb3
            have HSW := Lib.hid hsw; clear hsw
            have HK6 := Lib.hid hk6; clear hk6
            have HVS := Lib.hid hvs; clear hvs
            have HRS2 := Lib.hid hrs2; clear hrs2
            have HYI := Lib.hid hyi; clear hyi
            have HYR := Lib.hid hyr; clear hyr
            have HGL := Lib.hid hgl; clear hgl
            have B64 := Lib.hid b64; clear b64
            have HL2 := Lib.hid hl2; clear hl2
            have HSC := Lib.hid hsc; clear hsc
            go_wp2_with (at_builtin; refine wpList_append_run rfl _ _ _ rfl _ _ rfl rfl _ _ HRUN.out ?_)
            go_roundw
            case rel => exact ⟨j + 1,_,_,_,by omega,by go_num,HOWN.out,HSW.out,HBT.out,HK6.out,by unfold updZ; rw [List.length_set]; exact HBL5.out,by
             have h1 := HVS.out.2
             have h2 := HZN2.out
             unfold updZ
             rw [Int.toNat_natCast,List.length_append,List.length_singleton]; omega,fun x hx => by
             rcases List.mem_append.1 hx with hx | hx
             ·exact HNX2.out x hx
             ·rw [List.mem_singleton.1 hx]; omega⟩
            case measure => simp [intOf]; omega
           ·simp only [← hz,hz0,if_false] at hbt
            have HYJ := Lib.hid hyj; clear hyj
            have HBT := Lib.hid hbt; clear hbt
            have HST2 := Lib.hid hst2; clear hst2
            have HON2 := Lib.hid hon2; clear hon2
            have HO5 := Lib.hid ho5; clear ho5
            have HK5 := Lib.hid hk5; clear hk5
            have HBL5 := Lib.hid hbl5; clear hbl5
            have HZN2 := Lib.hid hzn2; clear hzn2
            have HNX2 := Lib.hid hnx2; clear hnx2
            have HZ := Lib.hid hz; clear hz
            have HRS2 := Lib.hid hrs2; clear hrs2
            have HYI := Lib.hid hyi; clear hyi
            have HYR := Lib.hid hyr; clear hyr
            have HGL := Lib.hid hgl; clear hgl
            have B64 := Lib.hid b64; clear b64
            go_wp2_with fail
            go_roundw
            case rel => exact ⟨j + 1,ln2,bk2,nx2,by omega,by go_num,HON2.out,HO5.out,HBT.out,HK5.out,HBL5.out,HZN2.out,HNX2.out⟩
            case measure => simp [intOf]; omega
          ·obtain rfl : xl = j := by omega
           rw [List.take_of_length_le (by rw [← HIN.out]; exact Nat.le_of_eq HRL.out.symm)] at hst2
           have hbr := bRow_take (into := intoL g (fr : Int)) (k := s.k) (s := (s.back,[])) HBI.out
           rw [HST.out] at hbr
           have hbr2 := hbr.trans hst2
           have HBR := Lib.hid hbr; clear hbr
           have HBR2 := Lib.hid hbr2; clear hbr2
           have HST2 := Lib.hid hst2; clear hst2
           have HON2 := Lib.hid hon2; clear hon2
           have HO5 := Lib.hid ho5; clear ho5
           have HK5 := Lib.hid hk5; clear hk5
           have HBL5 := Lib.hid hbl5; clear hbl5
           have HZN2 := Lib.hid hzn2; clear hzn2
           have HNX2 := Lib.hid hnx2; clear hnx2
           go_wp2_with fail
           go_roundw
           case rel => exact ⟨i_ + 1,ln2,bk2,nx2,by omega,by go_num,HON2.out,HO5.out,HBR2.out,HK5.out,HBL5.out,HZN2.out,HNX2.out⟩
           case measure => simp [intOf]; omega
        ·obtain rfl : l = i_ := by omega
         rw [List.take_of_length_le (by have := HLL.out; omega)] at hst
         have hone := hon.len
         obtain ⟨A4,c4,e4,h4⟩ := hon.sl (by omega) (fun x hx => by have := hnx x hx; unfold I64; omega)
         subst e4
         have hof : Off [w.heap.size + 1] A4 ln := fun h0 ad e hm => by
          have := hon.fresh h0 ad e
          simp at hm; omega
         have hnext : bStep (intoL g (fr : Int)) s = ⟨s.k + 1,bk,nx⟩ := by
          unfold bStep bLevel
          rw [hst]
         have hinv2 : BInv g (fr : Int) (bStep (intoL g (fr : Int)) s) := bStep_ok HG.out (by omega) (by have := HLEN.out; omega) HINV.out HZ.out.symm
         have hit2 := HIT.out.trans (bIter_go HGO.out)
         rw [hnext] at hinv2 hit2
         have HST := Lib.hid hst; clear hst
         have HON := Lib.hid hon; clear hon
         have HO4 := Lib.hid ho4; clear ho4
         have HK4 := Lib.hid hk4; clear hk4
         have HBL4 := Lib.hid hbl4; clear hbl4
         have HZN := Lib.hid hzn; clear hzn
         have HNX := Lib.hid hnx; clear hnx
         have HONE := Lib.hid hone; clear hone
         have H4 := Lib.hid h4; clear h4
         have HOF := Lib.hid hof; clear hof
         have HNEXT := Lib.hid hnext; clear hnext
         have HINV2 := Lib.hid hinv2; clear hinv2
         have HIT2 := Lib.hid hit2; clear hit2
         go_wp2_with fail
         go_roundw
         case rel => exact ⟨⟨s.k + 1,bk,nx⟩,A4,ln,c4,rfl,rfl,H4.out,HOF.out,HO4.out,HINV2.out,(by show s.k + 1 ≤ _; omega),HNX.out,HIT2.out⟩
         case measure =>
          show _ - (s.k + 1).toNat < _ - s.k.toNat
          omega
      ·have hgo : bGo (fr : Int) (most : Int) s = false := by
        unfold bGo
        rw [← hz]; simp [h3]
       have hBT : backT g (fr : Int) (most : Int) = s.back := by
        unfold backT
        rw [Int.toNat_natCast,← HLEN.out,hit,bIter_stop hgo]
       have l1 : (0 : Int) < (l : Int) := by omega
       have hbo := back_ok (most := (most : Int)) HG.out (show (1 : Int) ≤ (fr : Int) by omega) (by have := HLEN.out; omega) (by omega)
       rw [hBT] at hbo
       have hrg := hinv.rng (fr : Int) (Int.le_refl _) (by have := HLEN.out; omega)
       rw [← hz] at hrg
       obtain ⟨j0,hj0⟩ : ∃ j0 : Nat,z = (j0 : Int) + 1 := ⟨(z - 1).toNat,by omega⟩
       have hA : aroundT g (fr : Int) (most : Int) = (fr : Int) :: tailP g (fr : Int) s.back j0 (fr : Int) := by
        unfold aroundT
        rw [hBT,← hz,if_neg h3,hj0,show ((j0 : Int) + 1 - 1).toNat = j0 by omega]
       subst hj0
       have z1 : ((j0 : Int) + 1 == 0) = false := by simp; omega
       have z2 : (j0 : Int) + 1 ≤ 4002 := by omega
       have z3 : IntKind.i64.wrap ((j0 : Int) + 1 - 1) = (j0 : Int) := by
        rw [show (j0 : Int) + 1 - 1 = (j0 : Int) by omega]; exact IntWalk.i64_in _ (by omega)
       have hsz := hos.sz
       have ho4 : ArS w gl fr ((wl.alloc (.cells #[.int .i64 (fr : Int)] 3)).alloc (.cells #[.int .i64 (j0 : Int)] 3)) s.back (intoU g (fr : Int) gl) us ls := (hos.ext (bel_alloc _ _)).ext (bel_alloc _ _)
       have hb0 : Blk ((wl.alloc (.cells #[.int .i64 (fr : Int)] 3)).alloc (.cells #[.int .i64 (j0 : Int)] 3)) (wl.heap.size + 1) 3 #[.int .i64 (j0 : Int)] := blk_new (by simp) _ _
       have hn0 : OwnI ((wl.alloc (.cells #[.int .i64 (fr : Int)] 3)).alloc (.cells #[.int .i64 (j0 : Int)] 3)) wl.heap.size (.slice (some ⟨wl.heap.size,0,none⟩) 1 1) 1 [(fr : Int)] := own_one ((blk_new rfl _ _).alloc _) (Nat.le_refl _)
       have hos1 := hos.ext (bel_alloc wl (.cells #[.int .i64 (fr : Int)] 3))
       have mf1 : (wl.alloc (.cells #[.int .i64 (fr : Int)] 3)).cell? ⟨w.heap.size,0,none⟩ = some (.int .i64 (fr : Int)) := hos1.pf.cell 0
       have mb1 : (wl.alloc (.cells #[.int .i64 (fr : Int)] 3)).cell? ⟨w.heap.size + 1 + 1,0,none⟩ = some (.slice (some ⟨w.heap.size + 1,0,none⟩) gl gl) := hos1.bb.cell 0
       have mz1 : (wl.alloc (.cells #[.int .i64 (fr : Int)] 3)).cell? ⟨w.heap.size + 1,fr,none⟩ = some (.int .i64 ((j0 : Int) + 1)) := by
        rw [hos1.bk.cell,← hos.bk.cell]; exact mz
       have hus : ∀ a,a < gl → ∀ q,(us a).ownBlock = some q → q < wl.heap.size := fun a ha q hq => ((hos.gr.own a ha).2.lt q hq).2
       have hty : ∀ y ∈ (fr : Int) :: tailP g (fr : Int) s.back j0 (fr : Int),I64 y := fun y hy => by
        have hgl := HLEN.out
        rcases List.mem_cons.1 hy with h | h
        ·subst h; unfold I64; omega
        ·have h2 := (tail_ok HG.out hbo j0 (fr : Int) (Int.le_refl _) (by omega) hz.symm).2.2.1 y h
         unfold I64; omega
       clear hos1
       have HNOW := Lib.hid hnow; clear hnow
       have HNO := Lib.hid hno; clear hno
       have HOS := Lib.hid hos; clear hos
       have HINV := Lib.hid hinv; clear hinv
       have HNR := Lib.hid hnr; clear hnr
       have HIT := Lib.hid hit; clear hit
       have HZ := Lib.hid hz; clear hz
       have HBL := Lib.hid hbl; clear hbl
       have HGO := Lib.hid hgo; clear hgo
       have HBT := Lib.hid hBT; clear hBT
       have HA := Lib.hid hA; clear hA
       have HLL := Lib.hid hll; clear hll
       have HBO := Lib.hid hbo; clear hbo
       have HRG := Lib.hid hrg; clear hrg
       have HO4 := Lib.hid ho4; clear ho4
       have HB0 := Lib.hid hb0; clear hb0
       have HN0 := Lib.hid hn0; clear hn0
       have HUS := Lib.hid hus; clear hus
       have HTY := Lib.hid hty; clear hty
       go_wp2_with fail
       clear mf mb mz mf1 mb1 mz1
       generalize ((wl.alloc (.cells #[.int .i64 (fr : Int)] 3)).alloc (.cells #[.int .i64 (j0 : Int)] 3)) = X3 at *
       generalize wl.heap.size = nb at *
       go_loopw [19,20] (fun v t wr => ∃ (j pn kb : Nat) (x : Int) (pre : List Int),t = .pointer (some ⟨kb,0,none⟩) ∧ OwnI wr nb v (pn + 1) (pre ++ [x]) ∧ pn = pre.length ∧ Blk wr kb 3 #[.int .i64 (j : Int)] ∧ (nb ≤ kb ∧ v.ownBlock ≠ some kb) ∧ ArS w gl fr wr s.back (intoU g (fr : Int) gl) us ls ∧ ((fr : Int) ≤ x ∧ x < (gl : Int)) ∧ nthZ s.back x = (j : Int) + 1 ∧ pre ++ x :: tailP g (fr : Int) s.back j x = (fr : Int) :: tailP g (fr : Int) s.back j0 (fr : Int) ∧ pn + j = j0) (fun v _ _ => j0 + 2 - slLen v)
       case atStart => exact ⟨j0,0,nb + 1,(fr : Int),[],rfl,HN0.out,rfl,HB0.out,⟨by omega,by simp [Value.ownBlock]⟩,HO4.out,⟨Int.le_refl _,by omega⟩,HZ.out.symm,rfl,by omega⟩
       case round =>
        obtain ⟨j,pn,kb,x,pre,rfl,hon,hpn,hkb,⟨hkn,hko⟩,ho5,⟨x1,x2⟩,hxv,hpath,hpj⟩ := hrel
        obtain ⟨wi,rfl⟩ : ∃ wi : World,wi = wr := ⟨_,rfl⟩
        have hx64 : ∀ y ∈ pre ++ [x],I64 y := fun y hy => HTY.out y (by
         rw [← hpath]
         rcases List.mem_append.1 hy with h | h
         ·exact List.mem_append.2 (.inl h)
         ·rw [List.mem_singleton.1 h]; simp)
        obtain ⟨oA,oc,rfl,hos5⟩ := hon.sl (by omega) hx64
        have hoc := hos5.cap
        have hom := hos5.max
        by_cases hj : j = 0
        ·subst hj
         have mk : wi.cell? ⟨kb,0,none⟩ = some (.int .i64 0) := hkb.cell 0
         have hres : aroundT g (fr : Int) (most : Int) = pre ++ [x] := by rw [HA.out,← hpath]; rfl
         have HON := Lib.hid hon; clear hon
         have HPN := Lib.hid hpn; clear hpn
         have HKB := Lib.hid hkb; clear hkb
         have HO5 := Lib.hid ho5; clear ho5
         have HXV := Lib.hid hxv; clear hxv
         have HPATH := Lib.hid hpath; clear hpath
         have HX64 := Lib.hid hx64; clear hx64
         have HOS5 := Lib.hid hos5; clear hos5
         have HRES := Lib.hid hres; clear hres
         go_wp2_with fail
         go_ret
         exact ⟨_,_,_,rfl,by rw [HRES.out]; exact HOS5.out,HON.out.fresh.mono (by omega),HO5.out.bel⟩
        ·obtain ⟨q,rfl⟩ : ∃ q,j = q + 1 := ⟨j - 1,by omega⟩
         have eq1 : ((q + 1 : Nat) : Int) = (q : Int) + 1 := by omega
         rw [eq1] at hkb hxv
         clear eq1
         have hbnd := HBO.out
         obtain ⟨b,hbf,hbr,hb1,hb2,hbv⟩ := find_next HG.out hbnd (k := q) x1 (by have := HLEN.out; omega) (by rw [hxv]; omega)
         obtain ⟨i,hie,hib⟩ := idx_find (rowZ g x) 0 hbf
         rw [Int.zero_add] at hie
         have htl : tailP g (fr : Int) s.back (q + 1) x = b :: tailP g (fr : Int) s.back q b := by rw [tailP,hbf]; rfl
         rw [htl] at hpath
         obtain ⟨ob,oo,rfl,lo,co,xi64⟩ := hos5.int (k := pn) (x := x) (by rw [List.getElem?_append_right (by omega)]; simp [hpn])
         obtain ⟨xn,rfl⟩ : ∃ xn : Nat,x = (xn : Int) := ⟨x.toNat,by omega⟩
         have hrow := g_get g xn (by have := HLEN.out; omega)
         obtain ⟨rb,ro,rA,rl,rc,rfl,lr0,cr0,hr⟩ := HS.out.set hrow
         have crx := (ho5.bel.cell (World.block_lt_of_cell? _ _ cr0)).trans cr0
         clear cr0
         have hr5 := hr.ext ho5.bel
         have hrc := hr.cap
         have hrm := hr.max
         have hrl := hr.len
         have hil : i < rl := by rw [hrl]; exact (List.getElem?_eq_some_iff.1 hib).1
         obtain ⟨eb,eo,rfl,le,ce,b64⟩ := hr5.int hib
         have hct := indexFuncI_any _ rl rc (rowZ g (xn : Int)) 51 #[.pointer (some ⟨w.heap.size,0,none⟩),.pointer (some ⟨w.heap.size + 1 + 1,0,none⟩),.pointer (some ⟨kb,0,none⟩)] (fun b => decide ((fr : Int) < b) && decide (nthZ s.back b = (q : Int) + 1)) wi hr5 (fun args W => by kernel_rfl) (fun W y hb hy h64 => by
          have ho6 := ho5.ext hb
          refine around1_any w.heap.size (w.heap.size + 1 + 1) kb (w.heap.size + 1) gl (fr : Int) ((q : Int) + 1) y s.back W (ho6.pf.cell 0) (ho6.bb.cell 0) ((hkb.bel hb).cell 0) ho6.bk ?_ (by omega) (fun hf => ?_)
          ·rw [HINV.out.len,HLEN.out]
          ·have h2 := HG.out.ent _ y hy
           have := HLEN.out
           omega)
         rw [hie] at hct
         have mk : wi.cell? ⟨kb,0,none⟩ = some (.int .i64 ((q : Int) + 1)) := hkb.cell 0
         have p0 : (0 : Int) ≤ (pn : Int) := by omega
         have p1 : (pn : Int) < (pn : Int) + 1 := by omega
         have q0 : (0 : Int) ≤ (xn : Int) := by omega
         have q1 : (xn : Int) < (gl : Int) := by omega
         have i0 : (0 : Int) ≤ (i : Int) := by omega
         have i1 : (i : Int) < (rl : Int) := by omega
         have qb : (q : Int) + 1 ≤ 4002 := by omega
         have HON := Lib.hid hon; clear hon
         have HPN := Lib.hid hpn; clear hpn
         have HKB := Lib.hid hkb; clear hkb
         have HO5 := Lib.hid ho5; clear ho5
         have HXV := Lib.hid hxv; clear hxv
         have HPATH := Lib.hid hpath; clear hpath
         have HX64 := Lib.hid hx64; clear hx64
         have HOS5 := Lib.hid hos5; clear hos5
         have HBND := Lib.hid hbnd; clear hbnd
         have HBF := Lib.hid hbf; clear hbf
         have HBR := Lib.hid hbr; clear hbr
         have HBV := Lib.hid hbv; clear hbv
         have HIE := Lib.hid hie; clear hie
         have HIB := Lib.hid hib; clear hib
         have HTL := Lib.hid htl; clear htl
         have HROW := Lib.hid hrow; clear hrow
         have HR := Lib.hid hr; clear hr
         have HR5 := Lib.hid hr5; clear hr5
         have HRL := Lib.hid hrl; clear hrl
         have HCT := Lib.hid hct; clear hct
         have B64 := Lib.hid b64; clear b64
         have XI64 := Lib.hid xi64; clear xi64
         go_wp2_with fail
         go_fit HCT.out; rintro e w1 ⟨rfl,hb1⟩
         have crx6 := (hb1.cell (World.block_lt_of_cell? _ _ crx)).trans crx
         have ce6 := (hb1.cell (World.block_lt_of_cell? _ _ ce)).trans ce
         have co6 := (hb1.cell (World.block_lt_of_cell? _ _ co)).trans co
         have ho6 := HO5.out.ext hb1
         have hon6 := HON.out.bel hb1
         have hkb6 := HKB.out.bel hb1
         have hsz6 : nb ≤ w1.heap.size := by have := hkb6.lt; omega
         obtain ⟨v',w3,hrun,hown,hg3,hat⟩ := app1 hon6 b (by omega) hsz6 23
         have hb3 : Below nb w1 w3 := bel_grown (Below.refl _ _) hg3 hsz6 (fun k hk => (hon6.2.lt k hk).1)
         have hkb7 : Blk w3 kb 3 #[.int .i64 ((q : Int) + 1)] := hkb6.grown hg3 (fun e => hko e.symm)
         have ho8 := (ho6.low (by omega) HUS.out hb3).ext (bel_alloc w3 (.cells #[.int .i64 (q : Int)] 3))
         have hown8 := hown.bel (bel_alloc w3 (.cells #[.int .i64 (q : Int)] 3))
         have hkb8 : Blk (w3.alloc (.cells #[.int .i64 (q : Int)] 3)) w3.heap.size 3 #[.int .i64 (q : Int)] := blk_new rfl _ _
         have mk3 : w3.cell? ⟨kb,0,none⟩ = some (.int .i64 ((q : Int) + 1)) := hkb7.cell 0
         have hnk : v'.ownBlock ≠ some w3.heap.size := fun e => by have := (hown.2.lt _ e).2; omega
         have hsz3 : nb ≤ w3.heap.size := Nat.le_trans hsz6 hb3.size
         obtain ⟨A6,l6,c6,rfl⟩ := hown.shape
         have e6 : l6 = pn + 1 + 1 := by
          have h1 := hown.len
          rcases hown.2.2 with ⟨e,h0⟩ | ⟨g6,cap6,cur6,e,_⟩
          ·omega
          ·cases e; rfl
         subst e6
         have hpj2 : pn + 1 + q = j0 := by omega
         have hpl : pn + 1 = (pre ++ [(xn : Int)]).length := by rw [List.length_append,List.length_singleton]; have := HPN.out; omega
         have hpt : (pre ++ [(xn : Int)]) ++ b :: tailP g (fr : Int) s.back q b = (fr : Int) :: tailP g (fr : Int) s.back j0 (fr : Int) := by rw [List.append_assoc]; exact HPATH.out
         have HB1 := Lib.hid hb1; clear hb1
         have HO6 := Lib.hid ho6; clear ho6
         have HON6 := Lib.hid hon6; clear hon6
         have HKB6 := Lib.hid hkb6; clear hkb6
         have HRUN := Lib.hid hrun; clear hrun
         have HOWN := Lib.hid hown; clear hown
         have HG3 := Lib.hid hg3; clear hg3
         have HAT := Lib.hid hat; clear hat
         have HB3 := Lib.hid hb3; clear hb3
         have HKB7 := Lib.hid hkb7; clear hkb7
         have HO8 := Lib.hid ho8; clear ho8
         have HOWN8 := Lib.hid hown8; clear hown8
         have HKB8 := Lib.hid hkb8; clear hkb8
         have HPL := Lib.hid hpl; clear hpl
         have HPT := Lib.hid hpt; clear hpt
         go_wp2_with (at_builtin; refine wpList_append_run rfl _ _ _ rfl _ _ rfl rfl _ _ HRUN.out ?_)
         go_roundw
         case rel => exact ⟨q,pn + 1,w3.heap.size,b,_,rfl,HOWN8.out,HPL.out,HKB8.out,⟨hsz3,hnk⟩,HO8.out,⟨by omega,by have := HLEN.out; omega⟩,HBV.out,HPT.out,hpj2⟩
         case measure => simp [slLen]; omega
     ·have hgo : bGo (fr : Int) (most : Int) s = false := by
       unfold bGo
       simp [h2]
      have hBT : backT g (fr : Int) (most : Int) = s.back := by
       unfold backT
       rw [Int.toNat_natCast,← HLEN.out,hit,bIter_stop hgo]
      have l1 : (0 : Int) < (l : Int) := by omega
      by_cases h3 : z = 0
      ·skip
       have hA : aroundT g (fr : Int) (most : Int) = [] := by unfold aroundT; rw [hBT,← hz,if_pos h3]
       subst h3
       have HNOW := Lib.hid hnow; clear hnow
       have HNO := Lib.hid hno; clear hno
       have HOS := Lib.hid hos; clear hos
       have HINV := Lib.hid hinv; clear hinv
       have HNR := Lib.hid hnr; clear hnr
       have HIT := Lib.hid hit; clear hit
       have HZ := Lib.hid hz; clear hz
       have HBL := Lib.hid hbl; clear hbl
       have HGO := Lib.hid hgo; clear hgo
       have HBT := Lib.hid hBT; clear hBT
       have HA := Lib.hid hA; clear hA
       have HLL := Lib.hid hll; clear hll
       go_wp2_with fail
       go_ret
       exact ⟨none,0,0,rfl,by rw [HA.out]; exact SlIs.nil _ _,Frs.nil _ _,HOS.out.bel⟩
      ·skip
       have hbo := back_ok (most := (most : Int)) HG.out (show (1 : Int) ≤ (fr : Int) by omega) (by have := HLEN.out; omega) (by omega)
       rw [hBT] at hbo
       have hrg := hinv.rng (fr : Int) (Int.le_refl _) (by have := HLEN.out; omega)
       rw [← hz] at hrg
       obtain ⟨j0,hj0⟩ : ∃ j0 : Nat,z = (j0 : Int) + 1 := ⟨(z - 1).toNat,by omega⟩
       have hA : aroundT g (fr : Int) (most : Int) = (fr : Int) :: tailP g (fr : Int) s.back j0 (fr : Int) := by
        unfold aroundT
        rw [hBT,← hz,if_neg h3,hj0,show ((j0 : Int) + 1 - 1).toNat = j0 by omega]
       subst hj0
       have z1 : ((j0 : Int) + 1 == 0) = false := by simp; omega
       have z2 : (j0 : Int) + 1 ≤ 4002 := by omega
       have z3 : IntKind.i64.wrap ((j0 : Int) + 1 - 1) = (j0 : Int) := by
        rw [show (j0 : Int) + 1 - 1 = (j0 : Int) by omega]; exact IntWalk.i64_in _ (by omega)
       have hsz := hos.sz
       have ho4 : ArS w gl fr ((wl.alloc (.cells #[.int .i64 (fr : Int)] 3)).alloc (.cells #[.int .i64 (j0 : Int)] 3)) s.back (intoU g (fr : Int) gl) us ls := (hos.ext (bel_alloc _ _)).ext (bel_alloc _ _)
       have hb0 : Blk ((wl.alloc (.cells #[.int .i64 (fr : Int)] 3)).alloc (.cells #[.int .i64 (j0 : Int)] 3)) (wl.heap.size + 1) 3 #[.int .i64 (j0 : Int)] := blk_new (by simp) _ _
       have hn0 : OwnI ((wl.alloc (.cells #[.int .i64 (fr : Int)] 3)).alloc (.cells #[.int .i64 (j0 : Int)] 3)) wl.heap.size (.slice (some ⟨wl.heap.size,0,none⟩) 1 1) 1 [(fr : Int)] := own_one ((blk_new rfl _ _).alloc _) (Nat.le_refl _)
       have hos1 := hos.ext (bel_alloc wl (.cells #[.int .i64 (fr : Int)] 3))
       have mf1 : (wl.alloc (.cells #[.int .i64 (fr : Int)] 3)).cell? ⟨w.heap.size,0,none⟩ = some (.int .i64 (fr : Int)) := hos1.pf.cell 0
       have mb1 : (wl.alloc (.cells #[.int .i64 (fr : Int)] 3)).cell? ⟨w.heap.size + 1 + 1,0,none⟩ = some (.slice (some ⟨w.heap.size + 1,0,none⟩) gl gl) := hos1.bb.cell 0
       have mz1 : (wl.alloc (.cells #[.int .i64 (fr : Int)] 3)).cell? ⟨w.heap.size + 1,fr,none⟩ = some (.int .i64 ((j0 : Int) + 1)) := by
        rw [hos1.bk.cell,← hos.bk.cell]; exact mz
       have hus : ∀ a,a < gl → ∀ q,(us a).ownBlock = some q → q < wl.heap.size := fun a ha q hq => ((hos.gr.own a ha).2.lt q hq).2
       have hty : ∀ y ∈ (fr : Int) :: tailP g (fr : Int) s.back j0 (fr : Int),I64 y := fun y hy => by
        have hgl := HLEN.out
        rcases List.mem_cons.1 hy with h | h
        ·subst h; unfold I64; omega
        ·have h2 := (tail_ok HG.out hbo j0 (fr : Int) (Int.le_refl _) (by omega) hz.symm).2.2.1 y h
         unfold I64; omega
       clear hos1
       have HNOW := Lib.hid hnow; clear hnow
       have HNO := Lib.hid hno; clear hno
       have HOS := Lib.hid hos; clear hos
       have HINV := Lib.hid hinv; clear hinv
       have HNR := Lib.hid hnr; clear hnr
       have HIT := Lib.hid hit; clear hit
       have HZ := Lib.hid hz; clear hz
       have HBL := Lib.hid hbl; clear hbl
       have HGO := Lib.hid hgo; clear hgo
       have HBT := Lib.hid hBT; clear hBT
       have HA := Lib.hid hA; clear hA
       have HLL := Lib.hid hll; clear hll
       have HBO := Lib.hid hbo; clear hbo
       have HRG := Lib.hid hrg; clear hrg
       have HO4 := Lib.hid ho4; clear ho4
       have HB0 := Lib.hid hb0; clear hb0
       have HN0 := Lib.hid hn0; clear hn0
       have HUS := Lib.hid hus; clear hus
       have HTY := Lib.hid hty; clear hty
       go_wp2_with fail
       clear mf mb mz mf1 mb1 mz1
       generalize ((wl.alloc (.cells #[.int .i64 (fr : Int)] 3)).alloc (.cells #[.int .i64 (j0 : Int)] 3)) = X3 at *
       generalize wl.heap.size = nb at *
       go_loopw [19,20] (fun v t wr => ∃ (j pn kb : Nat) (x : Int) (pre : List Int),t = .pointer (some ⟨kb,0,none⟩) ∧ OwnI wr nb v (pn + 1) (pre ++ [x]) ∧ pn = pre.length ∧ Blk wr kb 3 #[.int .i64 (j : Int)] ∧ (nb ≤ kb ∧ v.ownBlock ≠ some kb) ∧ ArS w gl fr wr s.back (intoU g (fr : Int) gl) us ls ∧ ((fr : Int) ≤ x ∧ x < (gl : Int)) ∧ nthZ s.back x = (j : Int) + 1 ∧ pre ++ x :: tailP g (fr : Int) s.back j x = (fr : Int) :: tailP g (fr : Int) s.back j0 (fr : Int) ∧ pn + j = j0) (fun v _ _ => j0 + 2 - slLen v)
       case atStart => exact ⟨j0,0,nb + 1,(fr : Int),[],rfl,HN0.out,rfl,HB0.out,⟨by omega,by simp [Value.ownBlock]⟩,HO4.out,⟨Int.le_refl _,by omega⟩,HZ.out.symm,rfl,by omega⟩
       case round =>
        obtain ⟨j,pn,kb,x,pre,rfl,hon,hpn,hkb,⟨hkn,hko⟩,ho5,⟨x1,x2⟩,hxv,hpath,hpj⟩ := hrel
        obtain ⟨wi,rfl⟩ : ∃ wi : World,wi = wr := ⟨_,rfl⟩
        have hx64 : ∀ y ∈ pre ++ [x],I64 y := fun y hy => HTY.out y (by
         rw [← hpath]
         rcases List.mem_append.1 hy with h | h
         ·exact List.mem_append.2 (.inl h)
         ·rw [List.mem_singleton.1 h]; simp)
        obtain ⟨oA,oc,rfl,hos5⟩ := hon.sl (by omega) hx64
        have hoc := hos5.cap
        have hom := hos5.max
        by_cases hj : j = 0
        ·subst hj
         have mk : wi.cell? ⟨kb,0,none⟩ = some (.int .i64 0) := hkb.cell 0
         have hres : aroundT g (fr : Int) (most : Int) = pre ++ [x] := by rw [HA.out,← hpath]; rfl
         have HON := Lib.hid hon; clear hon
         have HPN := Lib.hid hpn; clear hpn
         have HKB := Lib.hid hkb; clear hkb
         have HO5 := Lib.hid ho5; clear ho5
         have HXV := Lib.hid hxv; clear hxv
         have HPATH := Lib.hid hpath; clear hpath
         have HX64 := Lib.hid hx64; clear hx64
         have HOS5 := Lib.hid hos5; clear hos5
         have HRES := Lib.hid hres; clear hres
         go_wp2_with fail
         go_ret
         exact ⟨_,_,_,rfl,by rw [HRES.out]; exact HOS5.out,HON.out.fresh.mono (by omega),HO5.out.bel⟩
        ·obtain ⟨q,rfl⟩ : ∃ q,j = q + 1 := ⟨j - 1,by omega⟩
         have eq1 : ((q + 1 : Nat) : Int) = (q : Int) + 1 := by omega
         rw [eq1] at hkb hxv
         clear eq1
         have hbnd := HBO.out
         obtain ⟨b,hbf,hbr,hb1,hb2,hbv⟩ := find_next HG.out hbnd (k := q) x1 (by have := HLEN.out; omega) (by rw [hxv]; omega)
         obtain ⟨i,hie,hib⟩ := idx_find (rowZ g x) 0 hbf
         rw [Int.zero_add] at hie
         have htl : tailP g (fr : Int) s.back (q + 1) x = b :: tailP g (fr : Int) s.back q b := by rw [tailP,hbf]; rfl
         rw [htl] at hpath
         obtain ⟨ob,oo,rfl,lo,co,xi64⟩ := hos5.int (k := pn) (x := x) (by rw [List.getElem?_append_right (by omega)]; simp [hpn])
         obtain ⟨xn,rfl⟩ : ∃ xn : Nat,x = (xn : Int) := ⟨x.toNat,by omega⟩
         have hrow := g_get g xn (by have := HLEN.out; omega)
         obtain ⟨rb,ro,rA,rl,rc,rfl,lr0,cr0,hr⟩ := HS.out.set hrow
         have crx := (ho5.bel.cell (World.block_lt_of_cell? _ _ cr0)).trans cr0
         clear cr0
         have hr5 := hr.ext ho5.bel
         have hrc := hr.cap
         have hrm := hr.max
         have hrl := hr.len
         have hil : i < rl := by rw [hrl]; exact (List.getElem?_eq_some_iff.1 hib).1
         obtain ⟨eb,eo,rfl,le,ce,b64⟩ := hr5.int hib
         have hct := indexFuncI_any _ rl rc (rowZ g (xn : Int)) 51 #[.pointer (some ⟨w.heap.size,0,none⟩),.pointer (some ⟨w.heap.size + 1 + 1,0,none⟩),.pointer (some ⟨kb,0,none⟩)] (fun b => decide ((fr : Int) < b) && decide (nthZ s.back b = (q : Int) + 1)) wi hr5 (fun args W => by kernel_rfl) (fun W y hb hy h64 => by
          have ho6 := ho5.ext hb
          refine around1_any w.heap.size (w.heap.size + 1 + 1) kb (w.heap.size + 1) gl (fr : Int) ((q : Int) + 1) y s.back W (ho6.pf.cell 0) (ho6.bb.cell 0) ((hkb.bel hb).cell 0) ho6.bk ?_ (by omega) (fun hf => ?_)
          ·rw [HINV.out.len,HLEN.out]
          ·have h2 := HG.out.ent _ y hy
           have := HLEN.out
           omega)
         rw [hie] at hct
         have mk : wi.cell? ⟨kb,0,none⟩ = some (.int .i64 ((q : Int) + 1)) := hkb.cell 0
         have p0 : (0 : Int) ≤ (pn : Int) := by omega
         have p1 : (pn : Int) < (pn : Int) + 1 := by omega
         have q0 : (0 : Int) ≤ (xn : Int) := by omega
         have q1 : (xn : Int) < (gl : Int) := by omega
         have i0 : (0 : Int) ≤ (i : Int) := by omega
         have i1 : (i : Int) < (rl : Int) := by omega
         have qb : (q : Int) + 1 ≤ 4002 := by omega
         have HON := Lib.hid hon; clear hon
         have HPN := Lib.hid hpn; clear hpn
         have HKB := Lib.hid hkb; clear hkb
         have HO5 := Lib.hid ho5; clear ho5
         have HXV := Lib.hid hxv; clear hxv
         have HPATH := Lib.hid hpath; clear hpath
         have HX64 := Lib.hid hx64; clear hx64
         have HOS5 := Lib.hid hos5; clear hos5
         have HBND := Lib.hid hbnd; clear hbnd
         have HBF := Lib.hid hbf; clear hbf
         have HBR := Lib.hid hbr; clear hbr
         have HBV := Lib.hid hbv; clear hbv
         have HIE := Lib.hid hie; clear hie
         have HIB := Lib.hid hib; clear hib
         have HTL := Lib.hid htl; clear htl
         have HROW := Lib.hid hrow; clear hrow
         have HR := Lib.hid hr; clear hr
         have HR5 := Lib.hid hr5; clear hr5
         have HRL := Lib.hid hrl; clear hrl
         have HCT := Lib.hid hct; clear hct
         have B64 := Lib.hid b64; clear b64
         have XI64 := Lib.hid xi64; clear xi64
         go_wp2_with fail
         go_fit HCT.out; rintro e w1 ⟨rfl,hb1⟩
         have crx6 := (hb1.cell (World.block_lt_of_cell? _ _ crx)).trans crx
         have ce6 := (hb1.cell (World.block_lt_of_cell? _ _ ce)).trans ce
         have co6 := (hb1.cell (World.block_lt_of_cell? _ _ co)).trans co
         have ho6 := HO5.out.ext hb1
         have hon6 := HON.out.bel hb1
         have hkb6 := HKB.out.bel hb1
         have hsz6 : nb ≤ w1.heap.size := by have := hkb6.lt; omega
         obtain ⟨v',w3,hrun,hown,hg3,hat⟩ := app1 hon6 b (by omega) hsz6 23
         have hb3 : Below nb w1 w3 := bel_grown (Below.refl _ _) hg3 hsz6 (fun k hk => (hon6.2.lt k hk).1)
         have hkb7 : Blk w3 kb 3 #[.int .i64 ((q : Int) + 1)] := hkb6.grown hg3 (fun e => hko e.symm)
         have ho8 := (ho6.low (by omega) HUS.out hb3).ext (bel_alloc w3 (.cells #[.int .i64 (q : Int)] 3))
         have hown8 := hown.bel (bel_alloc w3 (.cells #[.int .i64 (q : Int)] 3))
         have hkb8 : Blk (w3.alloc (.cells #[.int .i64 (q : Int)] 3)) w3.heap.size 3 #[.int .i64 (q : Int)] := blk_new rfl _ _
         have mk3 : w3.cell? ⟨kb,0,none⟩ = some (.int .i64 ((q : Int) + 1)) := hkb7.cell 0
         have hnk : v'.ownBlock ≠ some w3.heap.size := fun e => by have := (hown.2.lt _ e).2; omega
         have hsz3 : nb ≤ w3.heap.size := Nat.le_trans hsz6 hb3.size
         obtain ⟨A6,l6,c6,rfl⟩ := hown.shape
         have e6 : l6 = pn + 1 + 1 := by
          have h1 := hown.len
          rcases hown.2.2 with ⟨e,h0⟩ | ⟨g6,cap6,cur6,e,_⟩
          ·omega
          ·cases e; rfl
         subst e6
         have hpj2 : pn + 1 + q = j0 := by omega
         have hpl : pn + 1 = (pre ++ [(xn : Int)]).length := by rw [List.length_append,List.length_singleton]; have := HPN.out; omega
         have hpt : (pre ++ [(xn : Int)]) ++ b :: tailP g (fr : Int) s.back q b = (fr : Int) :: tailP g (fr : Int) s.back j0 (fr : Int) := by rw [List.append_assoc]; exact HPATH.out
         have HB1 := Lib.hid hb1; clear hb1
         have HO6 := Lib.hid ho6; clear ho6
         have HON6 := Lib.hid hon6; clear hon6
         have HKB6 := Lib.hid hkb6; clear hkb6
         have HRUN := Lib.hid hrun; clear hrun
         have HOWN := Lib.hid hown; clear hown
         have HG3 := Lib.hid hg3; clear hg3
         have HAT := Lib.hid hat; clear hat
         have HB3 := Lib.hid hb3; clear hb3
         have HKB7 := Lib.hid hkb7; clear hkb7
         have HO8 := Lib.hid ho8; clear ho8
         have HOWN8 := Lib.hid hown8; clear hown8
         have HKB8 := Lib.hid hkb8; clear hkb8
         have HPL := Lib.hid hpl; clear hpl
         have HPT := Lib.hid hpt; clear hpt
         go_wp2_with (at_builtin; refine wpList_append_run rfl _ _ _ rfl _ _ rfl rfl _ _ HRUN.out ?_)
         go_roundw
         case rel => exact ⟨q,pn + 1,w3.heap.size,b,_,rfl,HOWN8.out,HPL.out,HKB8.out,⟨hsz3,hnk⟩,HO8.out,⟨by omega,by have := HLEN.out; omega⟩,HBV.out,HPT.out,hpj2⟩
         case measure => simp [slLen]; omega
    ·have hgo : bGo (fr : Int) (most : Int) s = false := by
      have e : s.now = [] := List.eq_nil_of_length_eq_zero (by omega)
      unfold bGo
      simp [e]
     have hBT : backT g (fr : Int) (most : Int) = s.back := by
      unfold backT
      rw [Int.toNat_natCast,← HLEN.out,hit,bIter_stop hgo]
     obtain rfl : l = 0 := by omega
     by_cases h3 : z = 0
     ·skip
      have hA : aroundT g (fr : Int) (most : Int) = [] := by unfold aroundT; rw [hBT,← hz,if_pos h3]
      subst h3
      have HNOW := Lib.hid hnow; clear hnow
      have HNO := Lib.hid hno; clear hno
      have HOS := Lib.hid hos; clear hos
      have HINV := Lib.hid hinv; clear hinv
      have HNR := Lib.hid hnr; clear hnr
      have HIT := Lib.hid hit; clear hit
      have HZ := Lib.hid hz; clear hz
      have HBL := Lib.hid hbl; clear hbl
      have HGO := Lib.hid hgo; clear hgo
      have HBT := Lib.hid hBT; clear hBT
      have HA := Lib.hid hA; clear hA
      have HLL := Lib.hid hll; clear hll
      go_wp2_with fail
      go_ret
      exact ⟨none,0,0,rfl,by rw [HA.out]; exact SlIs.nil _ _,Frs.nil _ _,HOS.out.bel⟩
     ·skip
      have hbo := back_ok (most := (most : Int)) HG.out (show (1 : Int) ≤ (fr : Int) by omega) (by have := HLEN.out; omega) (by omega)
      rw [hBT] at hbo
      have hrg := hinv.rng (fr : Int) (Int.le_refl _) (by have := HLEN.out; omega)
      rw [← hz] at hrg
      obtain ⟨j0,hj0⟩ : ∃ j0 : Nat,z = (j0 : Int) + 1 := ⟨(z - 1).toNat,by omega⟩
      have hA : aroundT g (fr : Int) (most : Int) = (fr : Int) :: tailP g (fr : Int) s.back j0 (fr : Int) := by
       unfold aroundT
       rw [hBT,← hz,if_neg h3,hj0,show ((j0 : Int) + 1 - 1).toNat = j0 by omega]
      subst hj0
      have z1 : ((j0 : Int) + 1 == 0) = false := by simp; omega
      have z2 : (j0 : Int) + 1 ≤ 4002 := by omega
      have z3 : IntKind.i64.wrap ((j0 : Int) + 1 - 1) = (j0 : Int) := by
       rw [show (j0 : Int) + 1 - 1 = (j0 : Int) by omega]; exact IntWalk.i64_in _ (by omega)
      have hsz := hos.sz
      have ho4 : ArS w gl fr ((wl.alloc (.cells #[.int .i64 (fr : Int)] 3)).alloc (.cells #[.int .i64 (j0 : Int)] 3)) s.back (intoU g (fr : Int) gl) us ls := (hos.ext (bel_alloc _ _)).ext (bel_alloc _ _)
      have hb0 : Blk ((wl.alloc (.cells #[.int .i64 (fr : Int)] 3)).alloc (.cells #[.int .i64 (j0 : Int)] 3)) (wl.heap.size + 1) 3 #[.int .i64 (j0 : Int)] := blk_new (by simp) _ _
      have hn0 : OwnI ((wl.alloc (.cells #[.int .i64 (fr : Int)] 3)).alloc (.cells #[.int .i64 (j0 : Int)] 3)) wl.heap.size (.slice (some ⟨wl.heap.size,0,none⟩) 1 1) 1 [(fr : Int)] := own_one ((blk_new rfl _ _).alloc _) (Nat.le_refl _)
      have hos1 := hos.ext (bel_alloc wl (.cells #[.int .i64 (fr : Int)] 3))
      have mf1 : (wl.alloc (.cells #[.int .i64 (fr : Int)] 3)).cell? ⟨w.heap.size,0,none⟩ = some (.int .i64 (fr : Int)) := hos1.pf.cell 0
      have mb1 : (wl.alloc (.cells #[.int .i64 (fr : Int)] 3)).cell? ⟨w.heap.size + 1 + 1,0,none⟩ = some (.slice (some ⟨w.heap.size + 1,0,none⟩) gl gl) := hos1.bb.cell 0
      have mz1 : (wl.alloc (.cells #[.int .i64 (fr : Int)] 3)).cell? ⟨w.heap.size + 1,fr,none⟩ = some (.int .i64 ((j0 : Int) + 1)) := by
       rw [hos1.bk.cell,← hos.bk.cell]; exact mz
      have hus : ∀ a,a < gl → ∀ q,(us a).ownBlock = some q → q < wl.heap.size := fun a ha q hq => ((hos.gr.own a ha).2.lt q hq).2
      have hty : ∀ y ∈ (fr : Int) :: tailP g (fr : Int) s.back j0 (fr : Int),I64 y := fun y hy => by
       have hgl := HLEN.out
       rcases List.mem_cons.1 hy with h | h
       ·subst h; unfold I64; omega
       ·have h2 := (tail_ok HG.out hbo j0 (fr : Int) (Int.le_refl _) (by omega) hz.symm).2.2.1 y h
        unfold I64; omega
      clear hos1
      have HNOW := Lib.hid hnow; clear hnow
      have HNO := Lib.hid hno; clear hno
      have HOS := Lib.hid hos; clear hos
      have HINV := Lib.hid hinv; clear hinv
      have HNR := Lib.hid hnr; clear hnr
      have HIT := Lib.hid hit; clear hit
      have HZ := Lib.hid hz; clear hz
      have HBL := Lib.hid hbl; clear hbl
      have HGO := Lib.hid hgo; clear hgo
      have HBT := Lib.hid hBT; clear hBT
      have HA := Lib.hid hA; clear hA
      have HLL := Lib.hid hll; clear hll
      have HBO := Lib.hid hbo; clear hbo
      have HRG := Lib.hid hrg; clear hrg
      have HO4 := Lib.hid ho4; clear ho4
      have HB0 := Lib.hid hb0; clear hb0
      have HN0 := Lib.hid hn0; clear hn0
      have HUS := Lib.hid hus; clear hus
      have HTY := Lib.hid hty; clear hty
      go_wp2_with fail
      clear mf mb mz mf1 mb1 mz1
      generalize ((wl.alloc (.cells #[.int .i64 (fr : Int)] 3)).alloc (.cells #[.int .i64 (j0 : Int)] 3)) = X3 at *
      generalize wl.heap.size = nb at *
      go_loopw [19,20] (fun v t wr => ∃ (j pn kb : Nat) (x : Int) (pre : List Int),t = .pointer (some ⟨kb,0,none⟩) ∧ OwnI wr nb v (pn + 1) (pre ++ [x]) ∧ pn = pre.length ∧ Blk wr kb 3 #[.int .i64 (j : Int)] ∧ (nb ≤ kb ∧ v.ownBlock ≠ some kb) ∧ ArS w gl fr wr s.back (intoU g (fr : Int) gl) us ls ∧ ((fr : Int) ≤ x ∧ x < (gl : Int)) ∧ nthZ s.back x = (j : Int) + 1 ∧ pre ++ x :: tailP g (fr : Int) s.back j x = (fr : Int) :: tailP g (fr : Int) s.back j0 (fr : Int) ∧ pn + j = j0) (fun v _ _ => j0 + 2 - slLen v)
      case atStart => exact ⟨j0,0,nb + 1,(fr : Int),[],rfl,HN0.out,rfl,HB0.out,⟨by omega,by simp [Value.ownBlock]⟩,HO4.out,⟨Int.le_refl _,by omega⟩,HZ.out.symm,rfl,by omega⟩
      case round =>
       obtain ⟨j,pn,kb,x,pre,rfl,hon,hpn,hkb,⟨hkn,hko⟩,ho5,⟨x1,x2⟩,hxv,hpath,hpj⟩ := hrel
       obtain ⟨wi,rfl⟩ : ∃ wi : World,wi = wr := ⟨_,rfl⟩
       have hx64 : ∀ y ∈ pre ++ [x],I64 y := fun y hy => HTY.out y (by
        rw [← hpath]
        rcases List.mem_append.1 hy with h | h
        ·exact List.mem_append.2 (.inl h)
        ·rw [List.mem_singleton.1 h]; simp)
       obtain ⟨oA,oc,rfl,hos5⟩ := hon.sl (by omega) hx64
       have hoc := hos5.cap
       have hom := hos5.max
       by_cases hj : j = 0
       ·subst hj
        have mk : wi.cell? ⟨kb,0,none⟩ = some (.int .i64 0) := hkb.cell 0
        have hres : aroundT g (fr : Int) (most : Int) = pre ++ [x] := by rw [HA.out,← hpath]; rfl
        have HON := Lib.hid hon; clear hon
        have HPN := Lib.hid hpn; clear hpn
        have HKB := Lib.hid hkb; clear hkb
        have HO5 := Lib.hid ho5; clear ho5
        have HXV := Lib.hid hxv; clear hxv
        have HPATH := Lib.hid hpath; clear hpath
        have HX64 := Lib.hid hx64; clear hx64
        have HOS5 := Lib.hid hos5; clear hos5
        have HRES := Lib.hid hres; clear hres
        go_wp2_with fail
        go_ret
        exact ⟨_,_,_,rfl,by rw [HRES.out]; exact HOS5.out,HON.out.fresh.mono (by omega),HO5.out.bel⟩
       ·obtain ⟨q,rfl⟩ : ∃ q,j = q + 1 := ⟨j - 1,by omega⟩
        have eq1 : ((q + 1 : Nat) : Int) = (q : Int) + 1 := by omega
        rw [eq1] at hkb hxv
        clear eq1
        have hbnd := HBO.out
        obtain ⟨b,hbf,hbr,hb1,hb2,hbv⟩ := find_next HG.out hbnd (k := q) x1 (by have := HLEN.out; omega) (by rw [hxv]; omega)
        obtain ⟨i,hie,hib⟩ := idx_find (rowZ g x) 0 hbf
        rw [Int.zero_add] at hie
        have htl : tailP g (fr : Int) s.back (q + 1) x = b :: tailP g (fr : Int) s.back q b := by rw [tailP,hbf]; rfl
        rw [htl] at hpath
        obtain ⟨ob,oo,rfl,lo,co,xi64⟩ := hos5.int (k := pn) (x := x) (by rw [List.getElem?_append_right (by omega)]; simp [hpn])
        obtain ⟨xn,rfl⟩ : ∃ xn : Nat,x = (xn : Int) := ⟨x.toNat,by omega⟩
        have hrow := g_get g xn (by have := HLEN.out; omega)
        obtain ⟨rb,ro,rA,rl,rc,rfl,lr0,cr0,hr⟩ := HS.out.set hrow
        have crx := (ho5.bel.cell (World.block_lt_of_cell? _ _ cr0)).trans cr0
        clear cr0
        have hr5 := hr.ext ho5.bel
        have hrc := hr.cap
        have hrm := hr.max
        have hrl := hr.len
        have hil : i < rl := by rw [hrl]; exact (List.getElem?_eq_some_iff.1 hib).1
        obtain ⟨eb,eo,rfl,le,ce,b64⟩ := hr5.int hib
        have hct := indexFuncI_any _ rl rc (rowZ g (xn : Int)) 51 #[.pointer (some ⟨w.heap.size,0,none⟩),.pointer (some ⟨w.heap.size + 1 + 1,0,none⟩),.pointer (some ⟨kb,0,none⟩)] (fun b => decide ((fr : Int) < b) && decide (nthZ s.back b = (q : Int) + 1)) wi hr5 (fun args W => by kernel_rfl) (fun W y hb hy h64 => by
         have ho6 := ho5.ext hb
         refine around1_any w.heap.size (w.heap.size + 1 + 1) kb (w.heap.size + 1) gl (fr : Int) ((q : Int) + 1) y s.back W (ho6.pf.cell 0) (ho6.bb.cell 0) ((hkb.bel hb).cell 0) ho6.bk ?_ (by omega) (fun hf => ?_)
         ·rw [HINV.out.len,HLEN.out]
         ·have h2 := HG.out.ent _ y hy
          have := HLEN.out
          omega)
        rw [hie] at hct
        have mk : wi.cell? ⟨kb,0,none⟩ = some (.int .i64 ((q : Int) + 1)) := hkb.cell 0
        have p0 : (0 : Int) ≤ (pn : Int) := by omega
        have p1 : (pn : Int) < (pn : Int) + 1 := by omega
        have q0 : (0 : Int) ≤ (xn : Int) := by omega
        have q1 : (xn : Int) < (gl : Int) := by omega
        have i0 : (0 : Int) ≤ (i : Int) := by omega
        have i1 : (i : Int) < (rl : Int) := by omega
        have qb : (q : Int) + 1 ≤ 4002 := by omega
        have HON := Lib.hid hon; clear hon
        have HPN := Lib.hid hpn; clear hpn
        have HKB := Lib.hid hkb; clear hkb
        have HO5 := Lib.hid ho5; clear ho5
        have HXV := Lib.hid hxv; clear hxv
        have HPATH := Lib.hid hpath; clear hpath
        have HX64 := Lib.hid hx64; clear hx64
        have HOS5 := Lib.hid hos5; clear hos5
        have HBND := Lib.hid hbnd; clear hbnd
        have HBF := Lib.hid hbf; clear hbf
        have HBR := Lib.hid hbr; clear hbr
        have HBV := Lib.hid hbv; clear hbv
        have HIE := Lib.hid hie; clear hie
        have HIB := Lib.hid hib; clear hib
        have HTL := Lib.hid htl; clear htl
        have HROW := Lib.hid hrow; clear hrow
        have HR := Lib.hid hr; clear hr
        have HR5 := Lib.hid hr5; clear hr5
        have HRL := Lib.hid hrl; clear hrl
        have HCT := Lib.hid hct; clear hct
        have B64 := Lib.hid b64; clear b64
        have XI64 := Lib.hid xi64; clear xi64
        go_wp2_with fail
        go_fit HCT.out; rintro e w1 ⟨rfl,hb1⟩
        have crx6 := (hb1.cell (World.block_lt_of_cell? _ _ crx)).trans crx
        have ce6 := (hb1.cell (World.block_lt_of_cell? _ _ ce)).trans ce
        have co6 := (hb1.cell (World.block_lt_of_cell? _ _ co)).trans co
        have ho6 := HO5.out.ext hb1
        have hon6 := HON.out.bel hb1
        have hkb6 := HKB.out.bel hb1
        have hsz6 : nb ≤ w1.heap.size := by have := hkb6.lt; omega
        obtain ⟨v',w3,hrun,hown,hg3,hat⟩ := app1 hon6 b (by omega) hsz6 23
        have hb3 : Below nb w1 w3 := bel_grown (Below.refl _ _) hg3 hsz6 (fun k hk => (hon6.2.lt k hk).1)
        have hkb7 : Blk w3 kb 3 #[.int .i64 ((q : Int) + 1)] := hkb6.grown hg3 (fun e => hko e.symm)
        have ho8 := (ho6.low (by omega) HUS.out hb3).ext (bel_alloc w3 (.cells #[.int .i64 (q : Int)] 3))
        have hown8 := hown.bel (bel_alloc w3 (.cells #[.int .i64 (q : Int)] 3))
        have hkb8 : Blk (w3.alloc (.cells #[.int .i64 (q : Int)] 3)) w3.heap.size 3 #[.int .i64 (q : Int)] := blk_new rfl _ _
        have mk3 : w3.cell? ⟨kb,0,none⟩ = some (.int .i64 ((q : Int) + 1)) := hkb7.cell 0
        have hnk : v'.ownBlock ≠ some w3.heap.size := fun e => by have := (hown.2.lt _ e).2; omega
        have hsz3 : nb ≤ w3.heap.size := Nat.le_trans hsz6 hb3.size
        obtain ⟨A6,l6,c6,rfl⟩ := hown.shape
        have e6 : l6 = pn + 1 + 1 := by
         have h1 := hown.len
         rcases hown.2.2 with ⟨e,h0⟩ | ⟨g6,cap6,cur6,e,_⟩
         ·omega
         ·cases e; rfl
        subst e6
        have hpj2 : pn + 1 + q = j0 := by omega
        have hpl : pn + 1 = (pre ++ [(xn : Int)]).length := by rw [List.length_append,List.length_singleton]; have := HPN.out; omega
        have hpt : (pre ++ [(xn : Int)]) ++ b :: tailP g (fr : Int) s.back q b = (fr : Int) :: tailP g (fr : Int) s.back j0 (fr : Int) := by rw [List.append_assoc]; exact HPATH.out
        have HB1 := Lib.hid hb1; clear hb1
        have HO6 := Lib.hid ho6; clear ho6
        have HON6 := Lib.hid hon6; clear hon6
        have HKB6 := Lib.hid hkb6; clear hkb6
        have HRUN := Lib.hid hrun; clear hrun
        have HOWN := Lib.hid hown; clear hown
        have HG3 := Lib.hid hg3; clear hg3
        have HAT := Lib.hid hat; clear hat
        have HB3 := Lib.hid hb3; clear hb3
        have HKB7 := Lib.hid hkb7; clear hkb7
        have HO8 := Lib.hid ho8; clear ho8
        have HOWN8 := Lib.hid hown8; clear hown8
        have HKB8 := Lib.hid hkb8; clear hkb8
        have HPL := Lib.hid hpl; clear hpl
        have HPT := Lib.hid hpt; clear hpt
        go_wp2_with (at_builtin; refine wpList_append_run rfl _ _ _ rfl _ _ rfl rfl _ _ HRUN.out ?_)
        go_roundw
        case rel => exact ⟨q,pn + 1,w3.heap.size,b,_,rfl,HOWN8.out,HPL.out,HKB8.out,⟨hsz3,hnk⟩,HO8.out,⟨by omega,by have := HLEN.out; omega⟩,HBV.out,HPT.out,hpj2⟩
        case measure => simp [slLen]; omega
end Go.Proofs.YtbfbkpoakmnlpaaGreat
namespace Go.Proofs.YtbfbkpoakmnlpaaGreat
open Go.RowKit
def cycL (p : GProg) : List Int := cycT (ofL p) p.n.toNat p.n.toNat
theorem row_nodup {p : GProg} (h0 : 0 ≤ p.n) (a : Int) : (rowZ (ofL p) a).Nodup := by
 by_cases h1 : 0 ≤ a
 ·by_cases h2 : a ≤ p.n
  ·rw [of_row h0 h1 h2]
   exact List.nodup_iff_pairwise_ne.2 ((comp_spec _).2.imp fun h e => by subst e; omega)
  ·rw [of_far (by omega) h0]; exact List.nodup_nil
 ·have e : rowZ (ofL p) a = rowZ (ofL p) 0 := by
   unfold rowZ
   rw [show a.toNat = (0 : Int).toNat by omega]
  rw [e,of_row h0 (Int.le_refl _) h0]
  exact List.nodup_iff_pairwise_ne.2 ((comp_spec _).2.imp fun h e => by subst e; omega)
theorem best_len {g : List (List Int)} {k : Int} {best : List Int} (h : BestOk g k best) : best.length ≤ g.length := by
 rcases h with ⟨h,-⟩ | ⟨-,⟨fr,h⟩,-⟩
 ·subst h; simp
 ·exact nodup_le g.length best h.nod (fun y hy => by have := h.rng y hy; omega)
theorem cycT_succ (g : List (List Int)) (N k : Nat) : cycT g N (k + 1) = cycStep g N (cycT g N k) ((k : Int) + 1) := by unfold cycT; rw [List.range_succ,List.foldl_append]; rfl
set_option maxRecDepth 100000 in
set_option maxHeartbeats 4000000 in
theorem cycle_any (p : GProg) (nA : Option Addr) (nl nc : Nat) (sA : Option Addr) (sl sc : Nat) (rA : Option Addr) (rl rc : Nat) (mA : Option Addr) (ml mc : Nat) (w : World) (hp : ProgIn w p nA nl nc sA sl sc rA rl rc mA ml mc) (hv : validE p = 0) :
  Calls Tryz.prog 9 #[.agg #[.int .i64 p.n,.slice nA nl nc,.slice sA sl sc,.slice rA rl rc,.slice mA ml mc]] w fun e w' => ∃ A l c,e = .returned (.tuple #[.slice A l c,.int .i64 0]) ∧ SlIs intR w' A l c (cycL p) ∧ Frs w.heap.size A l ∧ Below w.heap.size w w' := by
 have cV := fun W (hb : Below w.heap.size w W) => valid_any p nA nl nc sA sl sc rA rl rc mA ml mc W (hp.ext hb)
 rw [hv] at cV
 have hi := validE_is hv
 have h0 : 0 ≤ p.n := (namedB_n hi.named).1
 have hn4 := (namedB_n hi.named).2
 have hg := of_ok hi h0 hn4
 have hx0 : Blk (w.alloc (.cells #[.int .i64 p.n,.slice nA nl nc,.slice sA sl sc,.slice rA rl rc,.slice mA ml mc] 27)) w.heap.size 27 #[.int .i64 p.n,.slice nA nl nc,.slice sA sl sc,.slice rA rl rc,.slice mA ml mc] := blk_new rfl _ _
 obtain ⟨N,hN⟩ : ∃ N : Nat,N = p.n.toNat := ⟨_,rfl⟩
 have hNn : p.n = (N : Int) := by omega
 have hlen := of_len p
 rw [← hN] at hlen
 have hN4 : N ≤ 4000 := by omega
 have HP := Lib.hid hp; clear hp
 have CV := Lib.hid cV; clear cV
 have HI := Lib.hid hi; clear hi
 have HG := Lib.hid hg; clear hg
 have HX0 := Lib.hid hx0; clear hx0
 have HN := Lib.hid hN; clear hN
 have HNN := Lib.hid hNn; clear hNn
 have HLEN := Lib.hid hlen; clear hlen
 have hcl : cycL p = cycT (ofL p) N N := by rw [HN.out]; rfl
 have hnd := row_nodup h0
 have HCL := Lib.hid hcl; clear hcl
 have HND := Lib.hid hnd; clear hnd
 go_enter Tryz.func9,Tryz.ntmps9
 go_wp2_with fail
 go_fit (CV.out _ (bel_alloc _ _)); rintro e w1 ⟨rfl,hb⟩
 have HB := Lib.hid (bel_trans (bel_alloc _ _) hb)
 have hx1 := HX0.out.bel hb
 clear hb
 have cO := of_any p nA nl nc sA sl sc rA rl rc mA ml mc w1 (HP.out.ext HB.out) HI.out h0
 rw [← HN.out] at cO
 have HX1 := Lib.hid hx1; clear hx1
 have CO := Lib.hid cO; clear cO
 obtain ⟨p0,p1,p2,p3,p4,p5⟩ := pcells HX1.out
 go_wp2_with fail
 go_fit CO.out; rintro e w2 ⟨ub,rfl,hs,hub,hb⟩
 clear p0 p1 p2 p3 p4 p5
 have HBW := Lib.hid (bel_trans HB.out hb)
 have hx2 := HX1.out.bel hb
 clear hb
 rw [HNN.out] at hx2
 obtain ⟨g,hge⟩ : ∃ g,g = ofL p := ⟨_,rfl⟩
 have hg2 := HG.out
 have hlen2 := HLEN.out
 have hcl2 := HCL.out
 have hnd2 := HND.out
 rw [← hge] at hs hg2 hlen2 hcl2 hnd2
 have HG2 := Lib.hid hg2
 have HLEN2 := Lib.hid hlen2
 have HCL2 := Lib.hid hcl2
 have HND2 := Lib.hid hnd2
 clear hg2 hlen2 hcl2 hnd2
 have HS := Lib.hid hs; clear hs
 have HX2 := Lib.hid hx2; clear hx2
 have HGE := Lib.hid hge; clear hge
 have HUB := Lib.hid hub; clear hub
 go_wp2_with fail
 go_loopw [6,7] (fun v t wr => ∃ (k : Nat) (A : Option Addr) (l c : Nat),k ≤ N ∧ v = .slice A l c ∧ t = .int .i64 ((k : Int) + 1) ∧ SlIs intR wr A l c (cycT g N k) ∧ Frs w.heap.size A l ∧ Below w2.heap.size w2 wr) (fun _ t _ => N + 1 - (intOf t).toNat)
 case atStart => exact ⟨0,none,0,0,Nat.zero_le _,rfl,rfl,SlIs.nil _ _,Frs.nil _ _,Below.refl _ _⟩
 case round =>
  obtain ⟨k,A,l,c,hk,rfl,rfl,hsl,hfr,hb⟩ := hrel
  have hwz : w.heap.size ≤ wr.heap.size := Nat.le_trans HBW.out.size hb.size
  obtain ⟨wo,rfl⟩ : ∃ wo : World,wo = wr := ⟨_,rfl⟩
  have m0 : wo.cell? ⟨w.heap.size,0,none⟩ = some (.int .i64 (N : Int)) := (HX2.out.bel hb).cell 0
  by_cases hlt : k < N
  ·have hbest := cyc_ok HG2.out HLEN2.out k hk
   have hbl := best_len hbest
   rw [HLEN2.out,← hsl.len] at hbl
   have hst := cycT_succ g N k
   unfold cycStep at hst
   rw [← hsl.len] at hst
   have k0 : (k : Int) + 1 ≤ (N : Int) := by omega
   have k1 : (0 : Int) ≤ (k : Int) + 1 := by omega
   by_cases hl0 : 0 < l
   ·obtain ⟨l1,rfl⟩ : ∃ l1,l = l1 + 1 := ⟨l - 1,by omega⟩
    have hst1 := hst
    rw [if_pos hl0,show (((l1 + 1 : Nat) : Int) - 1) = (l1 : Int) by omega] at hst1
    have hct := around_any (some ⟨ub,0,none⟩) (N + 1) (N + 1) g (k + 1) l1 wo HG2.out HND2.out (HS.out.ext hb) (by omega) (by omega) (by omega) (by omega)
    rw [show ((k + 1 : Nat) : Int) = (k : Int) + 1 by omega] at hct
    obtain ⟨best2,hb2e⟩ : ∃ b,b = cycT g N (k + 1) := ⟨_,rfl⟩
    rw [← hb2e] at hst1
    clear hst
    have HSL := Lib.hid hsl; clear hsl
    have HB := Lib.hid hb; clear hb
    have HBEST := Lib.hid hbest; clear hbest
    have HCT := Lib.hid hct; clear hct
    have HST1 := Lib.hid hst1; clear hst1
    have HB2E := Lib.hid hb2e; clear hb2e
    go_wp2_with fail
    go_fit HCT.out; rintro e w3 ⟨A3,l3,c3,rfl,hs3,hf3,hb3⟩
    have hb4 := bel_trans HB.out hb3
    have hl3 := hs3.len
    have hf4 := hf3.mono hwz
    clear hf3
    by_cases hz : 0 < l3
    ·have hst2 := HST1.out
     rw [← hl3,if_pos hz] at hst2
     rw [← hst2,HB2E.out] at hs3
     have HS3 := Lib.hid hs3; clear hs3
     have HB3 := Lib.hid hb3; clear hb3
     have HB4 := Lib.hid hb4; clear hb4
     have HL3 := Lib.hid hl3; clear hl3
     have HST2 := Lib.hid hst2; clear hst2
     go_wp2_with fail
     go_roundw
     case rel => exact ⟨k + 1,A3,l3,c3,by omega,rfl,by go_num,HS3.out,hf4,HB4.out⟩
     case measure => simp [intOf]; omega
    ·obtain rfl : l3 = 0 := by omega
     have hst2 := HST1.out
     rw [← hl3,if_neg (by omega)] at hst2
     have hs4 := HSL.out.ext hb3
     rw [← hst2,HB2E.out] at hs4
     have HS3 := Lib.hid hs3; clear hs3
     have HB3 := Lib.hid hb3; clear hb3
     have HB4 := Lib.hid hb4; clear hb4
     have HL3 := Lib.hid hl3; clear hl3
     have HST2 := Lib.hid hst2; clear hst2
     have HS4 := Lib.hid hs4; clear hs4
     go_wp2_with fail
     go_roundw
     case rel => exact ⟨k + 1,_,_,_,by omega,rfl,by go_num,HS4.out,hfr,HB4.out⟩
     case measure => simp [intOf]; omega
   ·obtain rfl : l = 0 := by omega
    have hst1 := hst
    simp only [Nat.lt_irrefl,if_false] at hst1
    have hct := around_any (some ⟨ub,0,none⟩) (N + 1) (N + 1) g (k + 1) N wo HG2.out HND2.out (HS.out.ext hb) (by omega) (by omega) (by omega) (by omega)
    rw [show ((k + 1 : Nat) : Int) = (k : Int) + 1 by omega] at hct
    obtain ⟨best2,hb2e⟩ : ∃ b,b = cycT g N (k + 1) := ⟨_,rfl⟩
    rw [← hb2e] at hst1
    clear hst
    have HSL := Lib.hid hsl; clear hsl
    have HB := Lib.hid hb; clear hb
    have HBEST := Lib.hid hbest; clear hbest
    have HCT := Lib.hid hct; clear hct
    have HST1 := Lib.hid hst1; clear hst1
    have HB2E := Lib.hid hb2e; clear hb2e
    go_wp2_with fail
    go_fit HCT.out; rintro e w3 ⟨A3,l3,c3,rfl,hs3,hf3,hb3⟩
    have hb4 := bel_trans HB.out hb3
    have hl3 := hs3.len
    have hf4 := hf3.mono hwz
    clear hf3
    by_cases hz : 0 < l3
    ·have hst2 := HST1.out
     rw [← hl3,if_pos hz] at hst2
     rw [← hst2,HB2E.out] at hs3
     have HS3 := Lib.hid hs3; clear hs3
     have HB3 := Lib.hid hb3; clear hb3
     have HB4 := Lib.hid hb4; clear hb4
     have HL3 := Lib.hid hl3; clear hl3
     have HST2 := Lib.hid hst2; clear hst2
     go_wp2_with fail
     go_roundw
     case rel => exact ⟨k + 1,A3,l3,c3,by omega,rfl,by go_num,HS3.out,hf4,HB4.out⟩
     case measure => simp [intOf]; omega
    ·obtain rfl : l3 = 0 := by omega
     have hst2 := HST1.out
     rw [← hl3,if_neg (by omega)] at hst2
     have hs4 := HSL.out.ext hb3
     rw [← hst2,HB2E.out] at hs4
     have HS3 := Lib.hid hs3; clear hs3
     have HB3 := Lib.hid hb3; clear hb3
     have HB4 := Lib.hid hb4; clear hb4
     have HL3 := Lib.hid hl3; clear hl3
     have HST2 := Lib.hid hst2; clear hst2
     have HS4 := Lib.hid hs4; clear hs4
     go_wp2_with fail
     go_roundw
     case rel => exact ⟨k + 1,_,_,_,by omega,rfl,by go_num,HS4.out,hfr,HB4.out⟩
     case measure => simp [intOf]; omega
  ·obtain rfl : k = N := by omega
   have hbz := bel_trans HBW.out hb
   rw [← HCL2.out] at hsl
   have HSL := Lib.hid hsl; clear hsl
   have HB := Lib.hid hb; clear hb
   have HBZ := Lib.hid hbz; clear hbz
   go_wp2_with fail
   go_ret2
   exact ⟨_,_,_,rfl,HSL.out,hfr,HBZ.out⟩
end Go.Proofs.YtbfbkpoakmnlpaaGreat

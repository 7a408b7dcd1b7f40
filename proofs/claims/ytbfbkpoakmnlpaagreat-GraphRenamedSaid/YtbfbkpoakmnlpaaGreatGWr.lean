/- Several texts in one: Wsh, Rea. -/
import Derived.Test.YtbfbkpoakmnlpaaGreatGY
import Derived.Test.YtbfbkpoakmnlpaaGreatGU
/- The closure that ostlerlaw21.reach computes, plain: rows as sets of bits. -/
namespace Go.Proofs.YtbfbkpoakmnlpaaGreat
def nthN (S : List Nat) (a : Nat) : Nat := S.getD a 0
theorem nthN_set {S : List Nat} {a v x : Nat} (h : a < S.length) : nthN (S.set a v) x = if a = x then v else nthN S x := by
 unfold nthN
 rw [List.getD_eq_getElem?_getD,List.getD_eq_getElem?_getD,List.getElem?_set]
 split
 ·rename_i e; subst e
  rfl
 ·rfl
def wB (S : List Nat) (a b : Nat) : List Nat := if (nthN S a).testBit b then S.set a (nthN S a ||| nthN S b) else S
def wRow (a : Nat) (S : List Nat) : Nat → List Nat
 | 0 => S
 | k + 1 => wB (wRow a S k) a k
def wAll (n : Nat) (S : List Nat) : Nat → List Nat
 | 0 => S
 | k + 1 => wRow k (wAll n S k) n
def wRnd (n : Nat) (S : List Nat) : Nat → List Nat
 | 0 => S
 | k + 1 => wAll n (wRnd n S k) n
def Bit (S : List Nat) (a b : Nat) : Prop := (nthN S a).testBit b = true
theorem wB_len (S : List Nat) (a b : Nat) : (wB S a b).length = S.length := by unfold wB; split <;> simp
theorem wRow_len (a : Nat) (S : List Nat) : ∀ k,(wRow a S k).length = S.length
 | 0 => rfl
 | k + 1 => by rw [wRow,wB_len,wRow_len a S k]
theorem wAll_len (n : Nat) (S : List Nat) : ∀ k,(wAll n S k).length = S.length
 | 0 => rfl
 | k + 1 => by rw [wAll,wRow_len,wAll_len n S k]
theorem wRnd_len (n : Nat) (S : List Nat) : ∀ k,(wRnd n S k).length = S.length
 | 0 => rfl
 | k + 1 => by rw [wRnd,wAll_len,wRnd_len n S k]
theorem wB_bit {S : List Nat} {a b x y : Nat} (ha : a < S.length) : Bit (wB S a b) x y ↔ Bit S x y ∨ (x = a ∧ Bit S a b ∧ Bit S b y) := by
 unfold wB Bit
 split
 ·rename_i h
  rw [nthN_set ha]
  split
  ·rename_i e; subst e
   rw [Nat.testBit_or,Bool.or_eq_true]
   simp [h]
  ·rename_i e
   simp; intro e2; exact absurd e2.symm e
 ·rename_i h
  simp [h]
theorem wB_mono {S : List Nat} {a b x y : Nat} (ha : a < S.length) (h : Bit S x y) : Bit (wB S a b) x y := (wB_bit ha).2 (.inl h)
theorem wRow_mono {S : List Nat} {a x y : Nat} (ha : a < S.length) (h : Bit S x y) : ∀ k,Bit (wRow a S k) x y
 | 0 => h
 | k + 1 => wB_mono (by rw [wRow_len]; exact ha) (wRow_mono ha h k)
theorem wAll_mono {n : Nat} {S : List Nat} {x y : Nat} (h : Bit S x y) : ∀ k,k ≤ S.length → Bit (wAll n S k) x y
 | 0,_ => h
 | k + 1,hk => wRow_mono (by rw [wAll_len]; omega) (wAll_mono h k (by omega)) n
theorem wRnd_mono {n : Nat} {S : List Nat} {x y : Nat} (hn : n ≤ S.length) (h : Bit S x y) : ∀ k,Bit (wRnd n S k) x y
 | 0 => h
 | k + 1 => wAll_mono (wRnd_mono hn h k) n (by rw [wRnd_len]; exact hn)
section
variable {T : Nat → Nat → Prop} (ht : ∀ a b c,T a b → T b c → T a c)
include ht
theorem wB_sound {S : List Nat} {a b : Nat} (ha : a < S.length) (h : ∀ x y,Bit S x y → T x y) (x y : Nat) (hb : Bit (wB S a b) x y) : T x y := by
 rcases (wB_bit ha).1 hb with q | ⟨rfl,q1,q2⟩
 ·exact h _ _ q
 ·exact ht _ _ _ (h _ _ q1) (h _ _ q2)
theorem wRow_sound {S : List Nat} {a : Nat} (ha : a < S.length) (h : ∀ x y,Bit S x y → T x y) : ∀ k x y,Bit (wRow a S k) x y → T x y
 | 0,x,y,hb => h x y hb
 | k + 1,x,y,hb => wB_sound ht (by rw [wRow_len]; exact ha) (wRow_sound ha h k) x y hb
theorem wAll_sound {n : Nat} {S : List Nat} (h : ∀ x y,Bit S x y → T x y) : ∀ k,k ≤ S.length → ∀ x y,Bit (wAll n S k) x y → T x y
 | 0,_,x,y,hb => h x y hb
 | k + 1,hk,x,y,hb => wRow_sound ht (by rw [wAll_len]; omega) (wAll_sound h k (by omega)) n x y hb
theorem wRnd_sound {n : Nat} {S : List Nat} (hn : n ≤ S.length) (h : ∀ x y,Bit S x y → T x y) : ∀ k x y,Bit (wRnd n S k) x y → T x y
 | 0,x,y,hb => h x y hb
 | k + 1,x,y,hb => wAll_sound ht (wRnd_sound hn h k) n (by rw [wRnd_len]; exact hn) x y hb
end
def StepN (E : Nat → Nat → Prop) : Nat → Nat → Nat → Prop
 | 0,a,b => E a b
 | k + 1,a,c => ∃ b,StepN E k a b ∧ E b c
theorem wRow_done {E : Nat → Nat → Prop} {n : Nat} {S : List Nat} {a b c : Nat} (ha : a < S.length) (hE : ∀ x y,E x y → Bit S x y) (h1 : Bit S a b) (h2 : E b c) (hb : b < n) : Bit (wRow a S n) a c := by
 have : ∀ k,b < k → Bit (wRow a S k) a c := fun k => by
  induction k with
  | zero => intro h; omega
  | succ k ih =>
   intro h
   rw [wRow]
   by_cases e : b = k
   ·subst e
    exact (wB_bit (by rw [wRow_len]; exact ha)).2 (.inr ⟨rfl,wRow_mono ha h1 b,wRow_mono ha (hE _ _ h2) b⟩)
   ·exact wB_mono (by rw [wRow_len]; exact ha) (ih (by omega))
 exact this n hb
theorem wAll_done {E : Nat → Nat → Prop} {n k : Nat} {S : List Nat} (hn : n = S.length) (hE : ∀ x y,E x y → Bit S x y) (hr : ∀ x y,E x y → x < n ∧ y < n) (h : ∀ j ≤ k,∀ x y,StepN E j x y → Bit S x y) :
  ∀ j ≤ k + 1,∀ x y,StepN E j x y → Bit (wAll n S n) x y := by
 intro j hj x y hs
 by_cases hjk : j ≤ k
 ·exact wAll_mono (h j hjk x y hs) n (by omega)
 ·obtain rfl : j = k + 1 := by omega
  obtain ⟨b,h1,h2⟩ := hs
  have hb := (hr _ _ h2).1
  have hx : x < n := by
   have : ∀ j x y,StepN E j x y → x < n := fun j => by
    induction j with
    | zero => exact fun x y h => (hr x y h).1
    | succ j ih => exact fun x y ⟨b,h,_⟩ => ih x b h
   exact this k x b h1
  have h3 := h k (Nat.le_refl _) x b h1
  have : ∀ m,x < m → m ≤ n → Bit (wAll n S m) x y := fun m => by
   induction m with
   | zero => intro h; omega
   | succ m ih =>
    intro h h'
    rw [wAll]
    by_cases e : x = m
    ·subst e
     exact wRow_done (by rw [wAll_len]; omega) (fun u v q => wAll_mono (hE u v q) x (by omega)) (wAll_mono h3 x (by omega)) h2 hb
    ·exact wRow_mono (by rw [wAll_len]; omega) (ih (by omega) (by omega)) n
  exact this n hx (Nat.le_refl _)
theorem wRnd_done {E : Nat → Nat → Prop} {n : Nat} {S : List Nat} (hn : n = S.length) (hE : ∀ x y,E x y → Bit S x y) (hr : ∀ x y,E x y → x < n ∧ y < n) : ∀ k,∀ j ≤ k,∀ x y,StepN E j x y → Bit (wRnd n S k) x y
 | 0,j,hj,x,y,h => by
  obtain rfl : j = 0 := by omega
  exact hE x y h
 | k + 1,j,hj,x,y,h => wAll_done (by rw [wRnd_len]; exact hn) (fun u v q => wRnd_mono (by omega) (hE u v q) k) hr (wRnd_done hn hE hr k) j hj x y h
/-! ### the closure of a graph -/
def Wkz (g : List (List Int)) : List Int → Prop
 | [] => True
 | [_] => True
 | a :: b :: r => b ∈ rowZ g a ∧ Wkz g (b :: r)
theorem Wkz.tail {g : List (List Int)} {a : Int} : ∀ {l : List Int},Wkz g (a :: l) → Wkz g l
 | [],_ => trivial
 | _ :: _,h => h.2
theorem Wkz.drop {g : List (List Int)} : ∀ {l1 l2 : List Int},Wkz g (l1 ++ l2) → Wkz g l2
 | [],_,h => h
 | _ :: l1,_,h => Wkz.drop (l1 := l1) h.tail
theorem simple_path {g : List (List Int)} {a b : Int} (h : Rch g a b) : ∃ l : List Int,Wkz g (a :: l) ∧ (a :: l).Nodup ∧ (a :: l).getLast? = some b := by
 induction h with
 | refl a => exact ⟨[],trivial,by simp,rfl⟩
 | @step a b c h k ih =>
  obtain ⟨l,h1,h2,h3⟩ := ih
  by_cases hm : a ∈ b :: l
  ·obtain ⟨l1,l2,e⟩ := List.append_of_mem hm
   rw [e] at h1 h2 h3
   refine ⟨l2,h1.drop,(List.nodup_append.1 h2).2.1,?_⟩
   rw [List.getLast?_append] at h3
   simpa using h3
  ·refine ⟨b :: l,⟨h,h1⟩,List.nodup_cons.2 ⟨hm,h2⟩,?_⟩
   rw [List.getLast?_cons_cons]; exact h3
def EdN (g : List (List Int)) (x y : Nat) : Prop := (y : Int) ∈ rowZ g (x : Int)
theorem StepN.cons {E : Nat → Nat → Prop} {a b : Nat} (h : E a b) : ∀ (j : Nat) {c : Nat},StepN E j b c → StepN E (j + 1) a c
 | 0,_,k => ⟨b,h,k⟩
 | j + 1,_,⟨d,k1,k2⟩ => ⟨d,StepN.cons h j k1,k2⟩
theorem wkz_steps {g : List (List Int)} (hg : GOk g) : ∀ (l : List Int) (x : Nat) (a y : Int),a ∈ rowZ g (x : Int) → Wkz g (a :: l) → (a :: l).getLast? = some y → StepN (EdN g) l.length x y.toNat
 | [],x,a,y,h,_,hl => by
  have e : a = y := by simpa using hl
  subst e
  have := hg.ent _ _ h
  show ((a.toNat : Nat) : Int) ∈ _
  rw [Int.toNat_of_nonneg (by omega)]; exact h
 | b :: l,x,a,y,h,hw,hl => by
  have h1 := hg.ent _ _ h
  have e : ((a.toNat : Nat) : Int) = a := Int.toNat_of_nonneg (by omega)
  have := wkz_steps hg l a.toNat b y (by rw [e]; exact hw.1) hw.2 (by rw [List.getLast?_cons_cons] at hl; exact hl)
  exact StepN.cons (show EdN g x a.toNat by unfold EdN; rw [e]; exact h) _ this
def Plus (g : List (List Int)) (x y : Int) : Prop := ∃ c ∈ rowZ g x,Rch g c y
theorem Plus.trans {g : List (List Int)} {a b c : Int} (h : Plus g a b) (k : Plus g b c) : Plus g a c := by
 obtain ⟨d,h1,h2⟩ := h
 obtain ⟨e,k1,k2⟩ := k
 exact ⟨d,h1,h2.trans (.step k1 k2)⟩
theorem wkz_rng {g : List (List Int)} (hg : GOk g) : ∀ (l : List Int) (a : Int),1 ≤ a ∧ a < (g.length : Int) → Wkz g (a :: l) → ∀ k ∈ a :: l,1 ≤ k ∧ k < (g.length : Int)
 | [],a,h,_,k,hk => by
  have e : k = a := by simpa using hk
  subst e; exact h
 | b :: l,a,h,hw,k,hk => by
  rcases List.mem_cons.1 hk with rfl | hk
  ·exact h
  ·exact wkz_rng hg l b (hg.ent _ _ hw.1) hw.2 k hk
theorem reach_ok {g : List (List Int)} (hg : GOk g) {S : List Nat} (hl : S.length = g.length) (hS : ∀ x y,Bit S x y ↔ EdN g x y) (x y : Nat) :
  Bit (wRnd g.length S g.length) x y ↔ Plus g (x : Int) (y : Int) := by
 constructor
 ·exact wRnd_sound (T := fun x y => Plus g (x : Int) (y : Int)) (fun _ _ _ h k => h.trans k) (by omega) (fun x y h => ⟨_,(hS x y).1 h,.refl _⟩) g.length x y
 ·rintro ⟨c,h1,h2⟩
  obtain ⟨l,k1,k2,k3⟩ := simple_path h2
  have hc := hg.ent _ _ h1
  have hr := wkz_rng hg l c hc k1
  have hle := nodup_le g.length (c :: l) k2 (fun k hk => by have := hr k hk; omega)
  have hs := wkz_steps hg l x c (y : Int) h1 k1 k3
  rw [Int.toNat_natCast] at hs
  refine wRnd_done (E := EdN g) (by omega) (fun u v h => (hS u v).2 h) (fun u v h => ?_) g.length l.length (by simp at hle; omega) x y hs
  have h2 := hg.ent _ _ h
  refine ⟨?_,by omega⟩
  rcases Nat.lt_or_ge u g.length with q | q
  ·exact q
  ·unfold EdN rowZ at h
   rw [Int.toNat_natCast,List.getD_eq_getElem?_getD,List.getElem?_eq_none q] at h
   simp at h
end Go.Proofs.YtbfbkpoakmnlpaaGreat
/- ostlerlaw21.reach. -/
namespace Go.Proofs.YtbfbkpoakmnlpaaGreat
open Go.RowKit
def eStep (S : List Nat) (e : Int × Int) : List Nat := S.set e.1.toNat (nthN S e.1.toNat ||| 2 ^ e.2.toNat)
def eBits (n : Nat) (es : List (Int × Int)) : List Nat := es.foldl eStep (List.replicate n 0)
theorem eFold_len : ∀ (es : List (Int × Int)) (S : List Nat),(es.foldl eStep S).length = S.length
 | [],_ => rfl
 | e :: es,S => by rw [List.foldl_cons,eFold_len es]; simp [eStep]
theorem eFold_bit (x y : Nat) : ∀ (es : List (Int × Int)) (S : List Nat),(∀ e ∈ es,0 ≤ e.1 ∧ e.1 < (S.length : Int) ∧ 0 ≤ e.2) → (Bit (es.foldl eStep S) x y ↔ Bit S x y ∨ ((x : Int),(y : Int)) ∈ es)
 | [],S,_ => by simp
 | e :: es,S,h => by
  have h0 := h e (List.mem_cons_self ..)
  rw [List.foldl_cons,eFold_bit x y es _ (fun k hk => by simpa [eStep] using h k (List.mem_cons_of_mem _ hk))]
  have : Bit (eStep S e) x y ↔ Bit S x y ∨ ((x : Int),(y : Int)) = e := by
   unfold Bit eStep
   rw [nthN_set (by omega)]
   obtain ⟨a,b⟩ := e
   simp only at h0
   split
   ·rename_i q
    subst q
    rw [Nat.testBit_or,Bool.or_eq_true,Nat.testBit_two_pow]
    simp only [decide_eq_true_eq,Prod.mk.injEq]
    constructor
    ·rintro (q | q)
     ·exact .inl q
     ·exact .inr ⟨by omega,by omega⟩
    ·rintro (q | q)
     ·exact .inl q
     ·exact .inr (by omega)
   ·rename_i q
    simp only [Prod.mk.injEq]
    constructor
    ·exact .inl
    ·rintro (k | k)
     ·exact k
     ·exact absurd (by omega) q
  rw [this,List.mem_cons,or_assoc]
theorem eBits_bit {n : Nat} {es : List (Int × Int)} (h : ∀ e ∈ es,0 ≤ e.1 ∧ e.1 < (n : Int) ∧ 0 ≤ e.2) (x y : Nat) : Bit (eBits n es) x y ↔ ((x : Int),(y : Int)) ∈ es := by
 unfold eBits
 rw [eFold_bit x y es _ (by simpa using h)]
 have : ¬ Bit (List.replicate n 0) x y := by
  unfold Bit nthN
  rw [List.getD_eq_getElem?_getD,List.getElem?_replicate]
  split <;> simp
 simp [this]
theorem edgeL_mem {p : GProg} (x y : Int) : (x,y) ∈ edgeL p ↔ y ∈ rowZ (ofL p) x ∧ 0 ≤ x ∧ x ≤ (p.n.toNat : Int) := by
 unfold edgeL rowPr
 rw [List.mem_flatMap]
 constructor
 ·rintro ⟨k,hk,h⟩
  obtain ⟨b,hb,e⟩ := List.mem_map.1 h
  have := List.mem_range.1 hk
  injection e with e1 e2
  subst e1 e2
  exact ⟨hb,by omega,by omega⟩
 ·rintro ⟨h,h0,h1⟩
  refine ⟨x.toNat,List.mem_range.2 (by omega),List.mem_map.2 ⟨y,?_,?_⟩⟩
  ·rw [Int.toNat_of_nonneg h0]; exact h
  ·rw [Int.toNat_of_nonneg h0]
def rchL (p : GProg) : List Nat := wRnd (p.n.toNat + 1) (eBits (p.n.toNat + 1) (edgeL p)) (p.n.toNat + 1)
theorem eBits_len (n : Nat) (es : List (Int × Int)) : (eBits n es).length = n := by unfold eBits; rw [eFold_len,List.length_replicate]
theorem edge_rng {p : GProg} (hg : GOk (ofL p)) (hl : (ofL p).length = p.n.toNat + 1) : ∀ e ∈ edgeL p,(0 ≤ e.1 ∧ e.1 < ((p.n.toNat + 1 : Nat) : Int)) ∧ 1 ≤ e.2 ∧ e.2 < ((p.n.toNat + 1 : Nat) : Int) := fun ⟨x,y⟩ he => by
 obtain ⟨h1,h2,h3⟩ := (edgeL_mem x y).1 he
 have := hg.ent _ _ h1
 rw [hl] at this
 exact ⟨⟨h2,by omega⟩,this.1,this.2⟩
theorem rchL_ok {p : GProg} (hg : GOk (ofL p)) (hl : (ofL p).length = p.n.toNat + 1) (x y : Nat) : Bit (rchL p) x y ↔ Plus (ofL p) (x : Int) (y : Int) := by
 unfold rchL
 rw [← hl]
 refine reach_ok hg (eBits_len _ _) (fun u v => ?_) x y
 rw [eBits_bit (fun e he => by have := edge_rng hg hl e he; rw [hl]; exact ⟨this.1.1,this.1.2,by omega⟩),edgeL_mem]
 constructor
 ·exact fun h => h.1
 ·intro h
  refine ⟨h,by omega,?_⟩
  rcases Nat.lt_or_ge u (ofL p).length with q | q
  ·omega
  ·unfold EdN rowZ at h
   rw [Int.toNat_natCast,List.getD_eq_getElem?_getD,List.getElem?_eq_none q] at h
   simp at h
def Low (n : Nat) (S : List Nat) : Prop := ∀ a,nthN S a < 2 ^ n
theorem Low.set {n : Nat} {S : List Nat} (h : Low n S) {a v : Nat} (hv : v < 2 ^ n) : Low n (S.set a v) := fun x => by
 rcases Nat.lt_or_ge a S.length with q | q
 ·rw [nthN_set q]
  split
  ·exact hv
  ·exact h x
 ·rw [List.set_eq_of_length_le q]; exact h x
theorem Low.wB {n : Nat} {S : List Nat} (h : Low n S) (a b : Nat) : Low n (wB S a b) := by
 unfold Go.Proofs.YtbfbkpoakmnlpaaGreat.wB
 split
 ·exact h.set (Nat.or_lt_two_pow (h a) (h b))
 ·exact h
theorem Low.eStep {n : Nat} {S : List Nat} (h : Low n S) {e : Int × Int} (he : e.2 < (n : Int)) (h1 : 0 ≤ e.2) : Low n (eStep S e) :=
 h.set (Nat.or_lt_two_pow (h _) (Nat.pow_lt_pow_right (by omega) (by omega)))
theorem Low.zero (n m : Nat) : Low n (List.replicate m 0) := fun x => by
 unfold nthN
 rw [List.getD_eq_getElem?_getD,List.getElem?_replicate]
 have : 0 < 2 ^ n := Nat.pow_pos (by omega)
 split <;> simpa using this
end Go.Proofs.YtbfbkpoakmnlpaaGreat

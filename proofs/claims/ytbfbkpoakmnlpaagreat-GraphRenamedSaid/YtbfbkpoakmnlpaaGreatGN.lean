/- Several texts in one: Rnp, Rnq, Rpm, Rmv. -/
import Derived.Test.YtbfbkpoakmnlpaaGreatGD
import Derived.Test.YtbfbkpoakmnlpaaGreatGL
import Derived.Test.YtbfbkpoakmnlpaaGreatSt6
import Derived.Test.YtbfbkpoakmnlpaaGreatInv
/- Renaming atoms (plain): the renamed program is valid, and reads in renamed sets as the program does in the sets themselves. -/
namespace Go.Proofs.YtbfbkpoakmnlpaaGreat
open Go.RowKit
def PermOf (pm : List Int) (n : Int) : Prop := 0 ≤ n ∧ pm.Perm (atomsL n.toNat)
def mvI (pm : List Int) (x : Int) : Int := if 0 < x then pm.getD (x.toNat - 1) 0 else -pm.getD ((-x).toNat - 1) 0
def mvR (f : Int → Int) (r : GRule) : GRule := { r with head := r.head.map f,body := r.body.map f }
def mvM (pm : List Int) (m : GMin) : GMin := { m with lits := litsOf (m.lits.map (mvI pm)),w := (litsOf (m.lits.map (mvI pm))).map (totP ((m.lits.map (mvI pm)).zip m.w)) }
def mvNgo : List Int → List ByteArray → List ByteArray → List ByteArray
 | q :: qs,s :: ss,acc => mvNgo qs ss (acc.set (q - 1).toNat s)
 | _,_,acc => acc
def mvN (pm : List Int) (ns : List ByteArray) : List ByteArray := mvNgo pm ns (List.replicate ns.length ByteArray.empty)
def renP (pm : List Int) (p : GProg) : GProg := ⟨p.n,mvN pm p.names,litsOf (p.shown.map (mvI pm)),p.rules.map (fun r => normR (mvR (mvI pm) r)),p.min.map (mvM pm)⟩
section
variable {pm : List Int} {n : Int}
theorem PermOf.len (h : PermOf pm n) : (pm.length : Int) = n := by
 have h1 := h.2.length_eq
 have h0 := h.1
 unfold atomsL at h1
 rw [List.length_map,List.length_range] at h1
 omega
theorem PermOf.rng (h : PermOf pm n) {x : Int} : x ∈ pm ↔ 1 ≤ x ∧ x ≤ n := by
 rw [h.2.mem_iff,atoms_mem]
 have := h.1
 constructor <;> (rintro ⟨a,b⟩; constructor <;> omega)
theorem PermOf.nd (h : PermOf pm n) : pm.Nodup := h.2.nodup_iff.2 (pair_nodup2 (atoms_pair _))
theorem PermOf.get (h : PermOf pm n) {x : Int} (h0 : 1 ≤ x) (h1 : x ≤ n) : ∃ y,pm[x.toNat - 1]? = some y ∧ mvI pm x = y ∧ mvI pm (-x) = -y ∧ 1 ≤ y ∧ y ≤ n := by
 have hl := h.len
 have hi : x.toNat - 1 < pm.length := by omega
 have hg := List.getElem?_eq_getElem hi
 refine ⟨pm[x.toNat - 1],hg,?_,?_,h.rng.1 (List.getElem_mem hi)⟩
 ·unfold mvI; rw [if_pos (by omega),List.getD_eq_getElem?_getD,hg]; rfl
 ·unfold mvI; rw [if_neg (by omega),List.getD_eq_getElem?_getD,Int.neg_neg,hg]; rfl
theorem litB_iff {x n : Int} : litB x n = true ↔ x ≠ 0 ∧ -n ≤ x ∧ x ≤ n := by
 unfold litB
 simp only [Bool.and_eq_true,bne_iff_ne,decide_eq_true_eq]
theorem lit_cases {x : Int} (h : litB x n = true) : (1 ≤ x ∧ x ≤ n) ∨ ∃ a,x = -a ∧ 1 ≤ a ∧ a ≤ n := by
 rw [litB_iff] at h
 by_cases h0 : 0 < x
 ·exact .inl ⟨by omega,h.2.2⟩
 ·exact .inr ⟨-x,by omega,by omega,by omega⟩
theorem mv_lit (h : PermOf pm n) {x : Int} (hx : litB x n = true) : litB (mvI pm x) n = true := by
 rw [litB_iff]
 rcases lit_cases hx with ⟨h0,h1⟩ | ⟨a,rfl,h0,h1⟩
 ·obtain ⟨y,_,e,_,y0,y1⟩ := h.get h0 h1; rw [e]; omega
 ·obtain ⟨y,_,_,e,y0,y1⟩ := h.get h0 h1; rw [e]; omega
theorem mv_pos (h : PermOf pm n) {x : Int} (h0 : 1 ≤ x) (h1 : x ≤ n) : 1 ≤ mvI pm x ∧ mvI pm x ≤ n := by
 obtain ⟨y,_,e,_,y0,y1⟩ := h.get h0 h1; rw [e]; exact ⟨y0,y1⟩
theorem mv_inj (h : PermOf pm n) {x y : Int} (hx : 1 ≤ x ∧ x ≤ n) (hy : 1 ≤ y ∧ y ≤ n) (he : mvI pm x = mvI pm y) : x = y := by
 obtain ⟨a,a1,a2,_⟩ := h.get hx.1 hx.2
 obtain ⟨b,b1,b2,_⟩ := h.get hy.1 hy.2
 have hl := h.len
 have := (List.getElem?_inj (by omega) h.nd).1 (show pm[x.toNat - 1]? = pm[y.toNat - 1]? by rw [a1,b1,← a2,← b2,he])
 omega
theorem mv_neg (h : PermOf pm n) {x : Int} (h0 : 1 ≤ x) (h1 : x ≤ n) : mvI pm (-x) = -mvI pm x := by
 obtain ⟨y,_,e,f,_⟩ := h.get h0 h1; rw [e,f]
theorem mv_onto (h : PermOf pm n) {y : Int} (h0 : 1 ≤ y) (h1 : y ≤ n) : ∃ x,1 ≤ x ∧ x ≤ n ∧ mvI pm x = y := by
 obtain ⟨i,hi,e⟩ := List.mem_iff_getElem.1 (h.rng.2 ⟨h0,h1⟩)
 have hl := h.len
 refine ⟨(i : Int) + 1,by omega,by omega,?_⟩
 obtain ⟨z,z1,z2,_⟩ := h.get (x := (i : Int) + 1) (by omega) (by omega)
 rw [show ((i : Int) + 1).toNat - 1 = i by omega,List.getElem?_eq_getElem hi] at z1
 injection z1 with z1
 rw [z2,← z1,e]
end
theorem sumG_zip (f : Int → Bool) : ∀ xs ys : List Int,sumG f xs ys = ((xs.zip ys).map fun p => if f p.1 then p.2 else 0).sum
 | [],_ => by simp [sumG]
 | _ :: _,[] => by simp [sumG]
 | x :: xs,y :: ys => by rw [sumG,sumG_zip f xs ys,List.zip_cons_cons,List.map_cons,List.sum_cons]
def sumD (f : Int → Bool) (t : Int → Int) (D : List Int) : Int := (D.map fun x => if f x then t x else 0).sum
theorem sumG_D (f : Int → Bool) (t : Int → Int) : ∀ D : List Int,sumG f D (D.map t) = sumD f t D
 | [] => rfl
 | x :: D => by rw [List.map_cons,sumG,sumG_D f t D]; unfold sumD; rw [List.map_cons,List.sum_cons]
theorem sumD_add (f : Int → Bool) (s t : Int → Int) : ∀ D : List Int,sumD f (fun x => s x + t x) D = sumD f s D + sumD f t D
 | [] => rfl
 | x :: D => by
  have ih := sumD_add f s t D
  unfold sumD at ih ⊢
  rw [List.map_cons,List.sum_cons,List.map_cons,List.sum_cons,List.map_cons,List.sum_cons,ih]
  cases f x <;> simp <;> omega
theorem sumD_zero (f : Int → Bool) (t : Int → Int) : ∀ D : List Int,(∀ x ∈ D,t x = 0) → sumD f t D = 0
 | [],_ => rfl
 | x :: D,h => by
  have ih := sumD_zero f t D fun y hy => h y (by simp [hy])
  unfold sumD at ih ⊢
  rw [List.map_cons,List.sum_cons,ih,h x (by simp)]
  cases f x <;> rfl
theorem sumD_one (f : Int → Bool) (z v : Int) : ∀ D : List Int,D.Nodup → z ∈ D → sumD f (fun x => if z = x then v else 0) D = if f z then v else 0
 | [],_,h => by simp at h
 | x :: D,hn,h => by
  rw [List.nodup_cons] at hn
  by_cases e : z = x
  ·subst e
   have ih := sumD_zero f (fun x => if z = x then v else 0) D fun y hy => if_neg fun (e : z = y) => hn.1 (by rw [e]; exact hy)
   unfold sumD at ih ⊢
   rw [List.map_cons,List.sum_cons,ih]
   simp
  ·have ih := sumD_one f z v D hn.2 (by
    rcases List.mem_cons.1 h with h | h
    ·exact absurd h e
    ·exact h)
   unfold sumD at ih ⊢
   rw [List.map_cons,List.sum_cons,ih]
   simp [e]
theorem sumD_tot (f : Int → Bool) {D : List Int} (hn : D.Nodup) : ∀ zs : List (Int × Int),(∀ p ∈ zs,p.1 ∈ D) → sumD f (totP zs) D = (zs.map fun p => if f p.1 then p.2 else 0).sum
 | [],_ => sumD_zero f _ D fun _ _ => rfl
 | p :: zs,h => by
  have e : totP (p :: zs) = fun x => (if p.1 = x then p.2 else 0) + totP zs x := by
   funext x; unfold totP; rw [List.map_cons,List.sum_cons]
  rw [e,sumD_add,sumD_one f p.1 p.2 D hn (h p (by simp)),sumD_tot f hn zs fun q hq => h q (by simp [hq]),List.map_cons,List.sum_cons]
theorem lits_nodup (xs : List Int) : (litsOf xs).Nodup := (lits_sorted xs).imp fun h e => by rw [e,litLt_irr] at h; cases h
theorem sumG_norm (f : Int → Bool) (L W : List Int) : sumG f (litsOf L) ((litsOf L).map (totP (L.zip W))) = sumG f L W := by
 rw [sumG_D,sumD_tot f (lits_nodup L) _ (fun p hp => (lits_mem _ _).2 (List.of_mem_zip hp).1),sumG_zip]
theorem sumG_all : ∀ xs ys : List Int,ys.length = xs.length → sumG (fun _ => true) xs ys = ys.sum
 | [],ys,h => by
  have : ys = [] := List.eq_nil_of_length_eq_zero (by simpa using h)
  subst this; rfl
 | _ :: _,[],h => by simp at h
 | x :: xs,y :: ys,h => by rw [sumG,sumG_all xs ys (by simpa using h),List.sum_cons]; rfl
theorem totP_one : ∀ {zs : List (Int × Int)} {x : Int},x ∈ zs.map Prod.fst → (∀ p ∈ zs,1 ≤ p.2) → 1 ≤ totP zs x
 | [],x,h,_ => by simp at h
 | p :: zs,x,h,hp => by
  have h0 := totP_bd (zs := zs) x fun q hq => by have := hp q (by simp [hq]); omega
  have h1 := hp p (by simp)
  have e : totP (p :: zs) x = (if p.1 = x then p.2 else 0) + totP zs x := by unfold totP; rw [List.map_cons,List.sum_cons]
  rw [e]
  split
  ·omega
  ·rename_i hne
   have h2 := totP_one (zs := zs) (x := x) (by
    rw [List.map_cons] at h
    rcases List.mem_cons.1 h with h | h
    ·exact absurd h.symm hne
    ·exact h) fun q hq => hp q (by simp [hq])
   omega
theorem inc_lits {n : Int} {xs : List Int} (h : ∀ a ∈ xs,1 ≤ a ∧ a ≤ n) : incB n (litsOf xs) = true := by
 have hm : ∀ x ∈ litsOf xs,1 ≤ x ∧ x ≤ n := fun x hx => h x ((lits_mem _ _).1 hx)
 unfold incB ordB
 rw [Bool.and_eq_true,ordGo_iff,List.all_eq_true]
 exact ⟨⟨fun x hx => litB_iff.2 (by have := hm x hx; omega),lits_sorted xs,fun y e => by cases e⟩,fun x hx => decide_eq_true (by have := hm x hx; omega)⟩
theorem ord_lits {n : Int} {xs : List Int} (h : ∀ x ∈ xs,litB x n = true) : ordB n (litsOf xs) = true := by
 unfold ordB
 rw [ordGo_iff]
 exact ⟨fun x hx => h x ((lits_mem _ _).1 hx),lits_sorted xs,fun y e => by cases e⟩
theorem wt_lits {xs ys : List Int} (hl : ys.length = xs.length) (h : wtGo 0 ys = true) : wtGo 0 ((litsOf xs).map (totP (xs.zip ys))) = true := by
 have hw := wtGo_spec ys 0 (by omega) (by omega) h
 refine wtGo_of _ _ (fun y hy => ?_) ?_
 ·obtain ⟨x,hx,rfl⟩ := List.mem_map.1 hy
  refine totP_one ?_ fun p hp => hw.1 _ (List.of_mem_zip hp).2
  rw [List.map_fst_zip (by omega)]
  exact (lits_mem _ _).1 hx
 ·have e := sumG_norm (fun _ => true) xs ys
  rw [sumG_all _ _ (by rw [List.length_map]),sumG_all _ _ hl] at e
  rw [e]; exact hw.2
theorem lits_ne {xs : List Int} (h : xs ≠ []) : litsOf xs ≠ [] := by
 obtain ⟨x,hx⟩ := List.exists_mem_of_ne_nil _ h
 exact List.ne_nil_of_mem ((lits_mem x xs).2 hx)
theorem norm_is {r : GRule} {n : Int} (h : PreRule r n) : RuleIs (normR r) n := by
 refine ⟨h.n0,h.n1,inc_lits h.head,fun hc => lits_ne (h.choice hc),ord_lits h.body,fun hs => ?_,fun hs => ?_,fun hs => ?_,h.b0,h.b1⟩
 ·have hs : r.sum = false := hs
  exact ⟨by unfold normR; rw [hs]; rfl,(h.plain hs).2⟩
 ·have hs : r.sum = true := hs
  unfold normR; rw [hs,if_pos rfl,List.length_map]
 ·have hs : r.sum = true := hs
  unfold normR; rw [hs,if_pos rfl]; exact wt_lits (h.wlen hs) (h.wt hs)
section
variable {pm : List Int} {n : Int}
theorem ord_lit {xs : List Int} (h : ordB n xs = true) : ∀ x ∈ xs,litB x n = true := by
 unfold ordB at h; exact ((ordGo_iff _ _ _).1 h).1
theorem pre_mv (h : PermOf pm n) {r : GRule} (hr : RuleIs r n) : PreRule (mvR (mvI pm) r) n := by
 have h0 := hr.n0
 have h1 := hr.n1
 refine ⟨hr.n0,hr.n1,fun a ha => ?_,fun hc e => hr.choice hc (List.map_eq_nil_iff.1 e),fun x hx => ?_,hr.plain,fun hs => ?_,hr.wt,hr.b0,hr.b1,?_,?_⟩
 ·obtain ⟨b,hb,rfl⟩ := List.mem_map.1 ha
  have := inc_mem hr.head b hb
  exact mv_pos h this.1 this.2
 ·obtain ⟨b,hb,rfl⟩ := List.mem_map.1 hx
  exact mv_lit h (ord_lit hr.body b hb)
 ·show r.w.length = (r.body.map _).length
  rw [List.length_map]; exact hr.wlen hs
 ·show (r.head.map _).length ≤ _
  rw [List.length_map]; have := inc_lenN h0 hr.head; omega
 ·show (r.body.map _).length ≤ _
  rw [List.length_map]; have := ordB_len h0 hr.body; omega
theorem mvNgo_is : ∀ (qs : List Int) (ss acc : List ByteArray),qs.Nodup → (∀ q ∈ qs,1 ≤ q ∧ q ≤ (acc.length : Int)) → ss.length = qs.length →
  (mvNgo qs ss acc).length = acc.length ∧ (∀ (i : Nat) (q : Int) (s : ByteArray),qs[i]? = some q → ss[i]? = some s → (mvNgo qs ss acc)[(q - 1).toNat]? = some s) ∧ ∀ j : Nat,((j : Int) + 1) ∉ qs → (mvNgo qs ss acc)[j]? = acc[j]?
 | [],ss,acc,_,_,_ => ⟨by simp [mvNgo],fun i q s h => by simp at h,fun j _ => by simp [mvNgo]⟩
 | q :: qs,[],acc,_,_,h => by simp at h
 | q :: qs,s :: ss,acc,hn,hq,hl => by
  rw [List.nodup_cons] at hn
  have hq0 := hq q (by simp)
  obtain ⟨h1,h2,h3⟩ := mvNgo_is qs ss (acc.set (q - 1).toNat s) hn.2 (fun x hx => by rw [List.length_set]; exact hq x (by simp [hx])) (by simpa using hl)
  have e : mvNgo (q :: qs) (s :: ss) acc = mvNgo qs ss (acc.set (q - 1).toNat s) := rfl
  rw [e]
  refine ⟨by rw [h1,List.length_set],fun i x t hx ht => ?_,fun j hj => ?_⟩
  ·cases i with
   | zero =>
    simp at hx ht
    subst hx; subst ht
    rw [h3 (q - 1).toNat (by rw [show (((q - 1).toNat : Nat) : Int) + 1 = q by omega]; exact hn.1),List.getElem?_set_self (by omega)]
   | succ i => exact h2 i x t (by simpa using hx) (by simpa using ht)
  ·rw [h3 j fun hm => hj (by simp [hm]),List.getElem?_set_ne (fun he => hj (by rw [show ((j : Nat) : Int) + 1 = q by omega]; simp))]
theorem mvN_perm (h : PermOf pm n) {ns : List ByteArray} (hl : (ns.length : Int) = n) : (mvN pm ns).Perm ns := by
 have hpl := h.len
 obtain ⟨h1,h2,_⟩ := mvNgo_is pm ns (List.replicate ns.length ByteArray.empty) h.nd (fun q hq => by rw [List.length_replicate]; have := h.rng.1 hq; omega) (by omega)
 change (mvN pm ns).length = _ at h1
 rw [List.length_replicate] at h1
 have h2 : ∀ (i : Nat) (q : Int) (s : ByteArray),pm[i]? = some q → ns[i]? = some s → (mvN pm ns)[(q - 1).toNat]? = some s := h2
 have e1 : ns = pm.map fun q => (mvN pm ns).getD (q - 1).toNat ByteArray.empty := by
  apply List.ext_getElem?
  intro i
  rw [List.getElem?_map]
  rcases Nat.lt_or_ge i pm.length with hi | hi
  ·rw [List.getElem?_eq_getElem hi,Option.map_some,List.getD_eq_getElem?_getD,h2 i _ _ (List.getElem?_eq_getElem hi) (List.getElem?_eq_getElem (show i < ns.length by omega)),List.getElem?_eq_getElem (show i < ns.length by omega)]; rfl
  ·rw [List.getElem?_eq_none hi,List.getElem?_eq_none (by omega)]; rfl
 have e2 : mvN pm ns = (atomsL n.toNat).map fun q => (mvN pm ns).getD (q - 1).toNat ByteArray.empty := by
  apply List.ext_getElem?
  intro i
  unfold atomsL
  rw [List.getElem?_map,List.getElem?_map]
  rcases Nat.lt_or_ge i n.toNat with hi | hi
  ·rw [List.getElem?_range hi,Option.map_some,Option.map_some,List.getD_eq_getElem?_getD,show ((i : Int) + 1 - 1).toNat = i by omega,List.getElem?_eq_getElem (show i < (mvN pm ns).length by omega)]; rfl
  ·rw [List.getElem?_eq_none (show (mvN pm ns).length ≤ i by omega),List.getElem?_eq_none (show (List.range n.toNat).length ≤ i by rw [List.length_range]; exact hi)]; rfl
 have e3 := (h.2.map fun q => (mvN pm ns).getD (q - 1).toNat ByteArray.empty)
 rw [← e1,← e2] at e3
 exact e3.symm
theorem namesGo_iff : ∀ (xs seen : List ByteArray),(∀ t ∈ seen,t.size ≠ 0) → (namesGo seen xs = true ↔ (∀ s ∈ xs,s.size ≤ 200 ∧ nlB s = false) ∧ (xs.filter fun s => decide (s.size ≠ 0)).Nodup ∧ ∀ s ∈ xs,s ∉ seen)
 | [],seen,_ => by simp [namesGo]
 | x :: r,seen,hs => by
  have hh : ∀ l : List ByteArray,hasS x l = true ↔ x ∈ l := fun l => by
   unfold hasS; rw [List.any_eq_true]
   constructor
   ·rintro ⟨t,ht,e⟩; rw [← of_decide_eq_true e]; exact ht
   ·exact fun h => ⟨x,h,decide_eq_true rfl⟩
  rw [namesGo_cons,Bool.and_eq_true,Bool.not_eq_true',Bool.or_eq_false_iff,Bool.or_eq_false_iff,decide_eq_false_iff_not,← Bool.not_eq_true (hasS x seen),hh]
  by_cases h0 : x.size = 0
  ·rw [if_pos h0,namesGo_iff r seen hs,List.filter_cons_of_neg (by simp [h0])]
   constructor
   ·rintro ⟨⟨a,b,c⟩,d,e,f⟩
    exact ⟨fun s hm => by
     rcases List.mem_cons.1 hm with rfl | hm
     ·exact ⟨by omega,b⟩
     ·exact d s hm,e,fun s hm => by
     rcases List.mem_cons.1 hm with rfl | hm
     ·exact c
     ·exact f s hm⟩
   ·rintro ⟨a,b,c⟩
    exact ⟨⟨by have := (a x (by simp)).1; omega,(a x (by simp)).2,c x (by simp)⟩,fun s hm => a s (by simp [hm]),b,fun s hm => c s (by simp [hm])⟩
  ·rw [if_neg h0,namesGo_iff r (x :: seen) (fun t ht => by
    rcases List.mem_cons.1 ht with rfl | ht
    ·exact h0
    ·exact hs t ht),List.filter_cons_of_pos (by simp [h0]),List.nodup_cons]
   constructor
   ·rintro ⟨⟨a,b,c⟩,d,e,f⟩
    exact ⟨fun s hm => by
     rcases List.mem_cons.1 hm with rfl | hm
     ·exact ⟨by omega,b⟩
     ·exact d s hm,⟨fun hm => f x (List.mem_filter.1 hm).1 (by simp),e⟩,fun s hm => by
     rcases List.mem_cons.1 hm with rfl | hm
     ·exact c
     ·exact fun h => f s hm (by simp [h])⟩
   ·rintro ⟨a,⟨b,b'⟩,c⟩
    exact ⟨⟨by have := (a x (by simp)).1; omega,(a x (by simp)).2,c x (by simp)⟩,fun s hm => a s (by simp [hm]),b',fun s hm h => by
     rcases List.mem_cons.1 h with rfl | h
     ·exact b (List.mem_filter.2 ⟨hm,by simp [h0]⟩)
     ·exact c s (by simp [hm]) h⟩
theorem names_perm {xs ys : List ByteArray} (hp : xs.Perm ys) (h : namesGo [] ys = true) : namesGo [] xs = true := by
 rw [namesGo_iff _ _ (by simp)] at h ⊢
 exact ⟨fun s hs => h.1 s (hp.mem_iff.1 hs),(hp.filter _).nodup_iff.2 h.2.1,by simp⟩
theorem minOk_mv (h : PermOf pm n) {m : GMin} (hm : minOk n m = true) : minOk n (mvM pm m) = true := by
 unfold minOk at hm ⊢
 simp only [Bool.and_eq_true] at hm ⊢
 obtain ⟨⟨⟨a,b⟩,c⟩,d⟩ := hm
 unfold wtB at b ⊢
 rw [Bool.and_eq_true,decide_eq_true_eq] at b ⊢
 refine ⟨⟨⟨?_,?_,?_⟩,c⟩,d⟩
 ·exact ord_lits fun x hx => by
   obtain ⟨y,hy,rfl⟩ := List.mem_map.1 hx
   exact mv_lit h (ord_lit a y hy)
 ·exact wt_lits (by rw [List.length_map]; exact b.2) b.1
 ·show (List.map _ _).length = _
  rw [List.length_map]; rfl
theorem minGo_mv (h : PermOf pm n) : ∀ (ms : List GMin) (q : Option GMin),minGoE n q ms = true → minGoE n (q.map (mvM pm)) (ms.map (mvM pm)) = true
 | [],_,_ => rfl
 | m :: r,q,hm => by
  rw [minGoE_cons,Bool.and_eq_true,Bool.and_eq_true] at hm
  rw [List.map_cons,minGoE_cons,Bool.and_eq_true,Bool.and_eq_true]
  refine ⟨⟨minOk_mv h hm.1.1,?_⟩,minGo_mv h r (some m) hm.2⟩
  cases q with
  | none => rfl
  | some l => exact hm.1.2
theorem renP_is {p : GProg} (hp : ProgIs p) (h : PermOf pm p.n) : ProgIs (renP pm p) := by
 refine ⟨?_,?_,fun r hr => ?_,?_,minGo_mv h p.min none hp.min⟩
 ·have h1 := hp.named
  unfold namedB at h1 ⊢
  simp only [Bool.and_eq_true,decide_eq_true_eq] at h1 ⊢
  obtain ⟨⟨⟨⟨a,b⟩,c⟩,d⟩,e⟩ := h1
  have hpm := mvN_perm h c
  refine ⟨⟨⟨⟨a,b⟩,?_⟩,?_⟩,names_perm hpm e⟩
  ·show (((mvN pm p.names).length : Nat) : Int) = p.n
   rw [hpm.length_eq]; exact c
  ·exact inc_lits fun x hx => by
    obtain ⟨y,hy,rfl⟩ := List.mem_map.1 hx
    have := inc_mem d y hy
    exact mv_pos h this.1 this.2
 ·show (p.rules.map _).length ≤ 40000
  rw [List.length_map]; exact hp.few
 ·obtain ⟨x,hx,rfl⟩ := List.mem_map.1 hr
  exact norm_is (pre_mv h (hp.rules x hx))
 ·show (p.min.map _).length ≤ 8
  rw [List.length_map]; exact hp.mins
section
variable {f : Int → Int}
end
end
end Go.Proofs.YtbfbkpoakmnlpaaGreat
/- Renaming atoms (plain): stable models and costs of the renamed program; every atom of a stable model is supported. -/
namespace Go.Proofs.YtbfbkpoakmnlpaaGreat
open Go.RowKit
theorem minGo_mem {n : Int} : ∀ (ms : List GMin) (q : Option GMin),minGoE n q ms = true → ∀ l ∈ ms,minOk n l = true
 | [],_,_,l,h => by simp at h
 | m :: r,q,h,l,hl => by
  rw [minGoE_cons,Bool.and_eq_true,Bool.and_eq_true] at h
  rcases List.mem_cons.1 hl with rfl | hl
  ·exact h.1.1
  ·exact minGo_mem r _ h.2 l hl
end Go.Proofs.YtbfbkpoakmnlpaaGreat
/- Rotations of the atoms (plain); what the loop that moves a set has laid down. -/
namespace Go.Proofs.YtbfbkpoakmnlpaaGreat
open Go.RowKit
def rotL (n t : Int) (k : Nat) : List Int := (List.range k).map fun (i : Nat) => 1 + ((i : Int) + t) % n
theorem rotL_succ (n t : Int) (k : Nat) : rotL n t (k + 1) = rotL n t k ++ [1 + ((k : Int) + t) % n] := by
 unfold rotL; rw [List.range_succ,List.map_append]; rfl
theorem rotI_perm {n t : Int} (h0 : 0 < n) : PermOf (rotL n t n.toNat) n := by
 refine ⟨by omega,(List.perm_ext_iff_of_nodup (nodup_map_on List.nodup_range fun i hi j hj e => ?_) (pair_nodup2 (atoms_pair _))).2 fun x => ?_⟩
 ·have hi := List.mem_range.1 hi
  have hj := List.mem_range.1 hj
  have e2 : ((i : Int) + t) % n = ((j : Int) + t) % n := by omega
  have e3 := Int.dvd_of_emod_eq_zero (Int.emod_eq_emod_iff_emod_sub_eq_zero.1 e2)
  obtain ⟨c,hc⟩ := e3
  have e4 : (i : Int) - j = n * c := by omega
  rcases Int.lt_trichotomy c 0 with h | h | h
  ·have := Int.mul_le_mul_of_nonneg_left (show c ≤ -1 by omega) (show 0 ≤ n by omega)
   omega
  ·subst h; omega
  ·have := Int.mul_le_mul_of_nonneg_left (show 1 ≤ c by omega) (show 0 ≤ n by omega)
   omega
 ·rw [List.mem_map,atoms_mem]
  constructor
  ·rintro ⟨i,_,rfl⟩
   have a := Int.emod_nonneg ((i : Int) + t) (show n ≠ 0 by omega)
   have b := Int.emod_lt_of_pos ((i : Int) + t) h0
   omega
  ·rintro ⟨a,b⟩
   have c1 := Int.emod_nonneg (x - 1 - t) (show n ≠ 0 by omega)
   have c2 := Int.emod_lt_of_pos (x - 1 - t) h0
   refine ⟨((x - 1 - t) % n).toNat,List.mem_range.2 (by omega),?_⟩
   rw [show ((((x - 1 - t) % n).toNat : Nat) : Int) = (x - 1 - t) % n by omega,Int.emod_add_emod,show x - 1 - t + t = x - 1 by omega,Int.emod_eq_of_lt (by omega) (by omega)]
   omega
theorem rot_64 {n t : Int} (h0 : 0 < n) (h1 : n ≤ 4000) {k : Nat} : ∀ x ∈ rotL n t k,I64 x := fun x hx => by
 obtain ⟨i,_,rfl⟩ := List.mem_map.1 hx
 have a := Int.emod_nonneg ((i : Int) + t) (show n ≠ 0 by omega)
 have b := Int.emod_lt_of_pos ((i : Int) + t) h0
 unfold I64; omega
end Go.Proofs.YtbfbkpoakmnlpaaGreat
/- Contract: the closure of gprog.Rename that moves literals. -/
namespace Go.Proofs.YtbfbkpoakmnlpaaGreat
open Go.RowKit Go.Shelf
set_option maxRecDepth 100000 in
set_option maxHeartbeats 2000000 in
theorem ren1_any (a : Nat) (qA : Option Addr) (ql qc : Nat) (pm : List Int) (n : Int) (lA : Option Addr) (ll lc : Nat) (xs : List Int) (w : World) (hbox : w.cell? ⟨a,0,none⟩ = some (.slice qA ql qc)) (hq : SlIs intR w qA ql qc pm) (hp : PermOf pm n) (hn : n ≤ 4000) (hl : SlIs intR w lA ll lc xs) (hx : ∀ x ∈ xs,litB x n = true) :
  Calls Tryz.prog 21 #[.slice lA ll lc,.pointer (some ⟨a,0,none⟩)] w fun e w' => ∃ A l' c,e = .returned (.slice A l' c) ∧ SlIs intR w' A l' c (xs.map (mvI pm)) ∧ l' = ll ∧ Frs w.heap.size A l' ∧ Below w.heap.size w w' := by
 have hlc := hl.cap
 have hlm := hl.max
 have hqc := hq.cap
 have hqm := hq.max
 have hln := hl.small
 have hlen := hl.len
 have hpl := hp.len
 have hql := hq.len
 have HBOX := Lib.hid hbox; clear hbox
 have HQ := Lib.hid hq; clear hq
 have HP := Lib.hid hp; clear hp
 have HL := Lib.hid hl; clear hl
 have HX := Lib.hid hx; clear hx
 have HLEN := Lib.hid hlen; clear hlen
 have HPL := Lib.hid hpl; clear hpl
 have HQL := Lib.hid hql; clear hql
 go_enter Tryz.func21,Tryz.ntmps21
 go_wp2_with fail
 go_loopw [4,9] (fun v t wr => ∃ (k : Nat),k ≤ ll ∧ t = .int .i64 (k : Int) ∧ OwnI wr w.heap.size v k ((xs.take k).map (mvI pm)) ∧ Below w.heap.size w wr) (fun _ t _ => ll - (intOf t).toNat)
 case atStart => exact ⟨0,Nat.zero_le _,rfl,OwnI.nil _ _,Below.refl _ _⟩
 case round =>
  obtain ⟨k,hk,rfl,ho,hb⟩ := hrel
  have hsz := hb.size
  by_cases hlt : k < ll
  ·obtain ⟨x,hxk,-⟩ := HL.out.drop hlt
   obtain ⟨xb,xo,rfl,lx,cx,x64⟩ := (HL.out.ext hb).int hxk
   have hlit := HX.out x (List.mem_of_getElem? hxk)
   have cb : wr.cell? ⟨a,0,none⟩ = some (.slice qA ql qc) := (hb.cell (World.block_lt_of_cell? _ _ HBOX.out)).trans HBOX.out
   have hst : (xs.take (k + 1)).map (mvI pm) = (xs.take k).map (mvI pm) ++ [mvI pm x] := by rw [take_snoc' hxk,List.map_append]; rfl
   have k0 : (0 : Int) ≤ (k : Int) := by omega
   have k1 : (k : Int) < (ll : Int) := by omega
   rcases lit_cases hlit with ⟨h0,h1⟩ | ⟨y,hxy,h0,h1⟩
   ·obtain ⟨z,hz,hmz,-,z0,z1⟩ := HP.out.get h0 h1
    obtain ⟨j,hj⟩ : ∃ j : Nat,j = x.toNat - 1 := ⟨_,rfl⟩
    rw [← hj] at hz
    obtain ⟨pb,po,rfl,_,cz,z64⟩ := (HQ.out.ext hb).int hz
    have e1 : IntKind.i64.wrap (x - 1) = (j : Int) := by rw [IntWalk.i64_in _ (by omega)]; omega
    have j0 : (0 : Int) ≤ (j : Int) := by omega
    have j1 : (j : Int) < (ql : Int) := by have := HPL.out; have := HQL.out; omega
    have x0 : 0 < x := by omega
    obtain ⟨v',w3,hrun,hown3,hg3,hat3⟩ := app1 ho z (by omega) hsz 23
    have hb3 := bel_grown hb hg3 hsz (fun q hq => (ho.2.lt q hq).1)
    rw [← hmz,← hst] at hown3
    clear hlit hst hmz h0 h1
    have HXK := Lib.hid hxk; clear hxk
    have HO := Lib.hid ho; clear ho
    have HB := Lib.hid hb; clear hb
    have HRUN := Lib.hid hrun; clear hrun
    have HOWN3 := Lib.hid hown3; clear hown3
    have HG3 := Lib.hid hg3; clear hg3
    have HAT3 := Lib.hid hat3; clear hat3
    have HB3 := Lib.hid hb3; clear hb3
    have HJ := Lib.hid hj; clear hj
    have HZ := Lib.hid hz; clear hz
    have X64 := Lib.hid x64; clear x64
    have Z64 := Lib.hid z64; clear z64
    go_wp2_with (at_builtin; refine wpList_append_run rfl _ _ _ rfl _ _ rfl rfl _ _ HRUN.out ?_)
    go_roundw
    case rel => exact ⟨k + 1,by omega,by go_num,HOWN3.out,HB3.out⟩
    case measure => simp [intOf]; omega
   ·obtain ⟨z,hz,hmz,hmz2,z0,z1⟩ := HP.out.get h0 h1
    obtain ⟨j,hj⟩ : ∃ j : Nat,j = y.toNat - 1 := ⟨_,rfl⟩
    rw [← hj] at hz
    obtain ⟨pb,po,rfl,_,cz,z64⟩ := (HQ.out.ext hb).int hz
    have e0 : IntKind.i64.wrap (-x) = y := by rw [IntWalk.i64_in _ (by omega)]; omega
    have e1 : IntKind.i64.wrap (y - 1) = (j : Int) := by rw [IntWalk.i64_in _ (by omega)]; omega
    have e2 : IntKind.i64.wrap (-z) = -z := by rw [IntWalk.i64_in _ (by omega)]
    have j0 : (0 : Int) ≤ (j : Int) := by omega
    have j1 : (j : Int) < (ql : Int) := by have := HPL.out; have := HQL.out; omega
    have x0 : ¬ 0 < x := by omega
    obtain ⟨v',w3,hrun,hown3,hg3,hat3⟩ := app1 ho (-z) (by omega) hsz 23
    have hb3 := bel_grown hb hg3 hsz (fun q hq => (ho.2.lt q hq).1)
    rw [hxy,hmz2] at hst
    rw [← hst] at hown3
    clear hlit hst hmz hmz2 h0 h1
    have HXK := Lib.hid hxk; clear hxk
    have HO := Lib.hid ho; clear ho
    have HB := Lib.hid hb; clear hb
    have HRUN := Lib.hid hrun; clear hrun
    have HOWN3 := Lib.hid hown3; clear hown3
    have HG3 := Lib.hid hg3; clear hg3
    have HAT3 := Lib.hid hat3; clear hat3
    have HB3 := Lib.hid hb3; clear hb3
    have HJ := Lib.hid hj; clear hj
    have HZ := Lib.hid hz; clear hz
    have X64 := Lib.hid x64; clear x64
    have Z64 := Lib.hid z64; clear z64
    have HXY := Lib.hid hxy; clear hxy
    go_wp2_with (at_builtin; refine wpList_append_run rfl _ _ _ rfl _ _ rfl rfl _ _ HRUN.out ?_)
    go_roundw
    case rel => exact ⟨k + 1,by omega,by go_num,HOWN3.out,HB3.out⟩
    case measure => simp [intOf]; omega
  ·have hkl : k = ll := by omega
   have k1 : ¬ (k : Int) < (ll : Int) := by omega
   have htk : xs.take k = xs := List.take_of_length_le (by have := HLEN.out; omega)
   rw [htk] at ho
   obtain ⟨vA,vc,rfl,hsv⟩ := ho.sl (by omega) (fun z hz => by
    obtain ⟨x,hx,rfl⟩ := List.mem_map.1 hz
    have := litB_iff.1 (mv_lit HP.out (HX.out x hx))
    unfold I64; omega)
   have hfr := ho.fresh
   clear htk
   have HO := Lib.hid ho; clear ho
   have HB := Lib.hid hb; clear hb
   have HSV := Lib.hid hsv; clear hsv
   have HFR := Lib.hid hfr; clear hfr
   have HKL := Lib.hid hkl; clear hkl
   go_wp2_with fail
   go_ret
   exact ⟨_,_,_,rfl,HSV.out,HKL.out,HFR.out,HB.out⟩
end Go.Proofs.YtbfbkpoakmnlpaaGreat

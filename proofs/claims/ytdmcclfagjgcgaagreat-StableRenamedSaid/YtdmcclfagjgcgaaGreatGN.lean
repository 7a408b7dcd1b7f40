/- Several texts in one: Rnp, Rnq, Rpm, Rmv. -/
import Derived.Test.YtdmcclfagjgcgaaGreatGD
import Derived.Test.YtdmcclfagjgcgaaGreatGL
import Derived.Test.YtdmcclfagjgcgaaGreatSt6
import Derived.Test.YtdmcclfagjgcgaaGreatInv
/- Renaming atoms (plain): the renamed program is valid, and reads in renamed sets as the program does in the sets themselves. -/
namespace Go.Proofs.YtdmcclfagjgcgaaGreat
open Go.RowKit

def PermOf (pm : List Int) (n : Int) : Prop := 0 ≤ n ∧ pm.Perm (atomsL n.toNat)
/-- Where a literal goes. -/
def mvI (pm : List Int) (x : Int) : Int := if 0 < x then pm.getD (x.toNat - 1) 0 else -pm.getD ((-x).toNat - 1) 0
def mvR (f : Int → Int) (r : GRule) : GRule := { r with head := r.head.map f, body := r.body.map f }
def mvM (pm : List Int) (m : GMin) : GMin := { m with lits := litsOf (m.lits.map (mvI pm)), w := (litsOf (m.lits.map (mvI pm))).map (totP ((m.lits.map (mvI pm)).zip m.w)) }
def mvNgo : List Int → List ByteArray → List ByteArray → List ByteArray
  | q :: qs, s :: ss, acc => mvNgo qs ss (acc.set (q - 1).toNat s)
  | _, _, acc => acc
def mvN (pm : List Int) (ns : List ByteArray) : List ByteArray := mvNgo pm ns (List.replicate ns.length ByteArray.empty)
def renP (pm : List Int) (p : GProg) : GProg := ⟨p.n, mvN pm p.names, litsOf (p.shown.map (mvI pm)), p.rules.map (fun r => normR (mvR (mvI pm) r)), p.min.map (mvM pm)⟩
section
variable {pm : List Int} {n : Int}
theorem PermOf.len (h : PermOf pm n) : (pm.length : Int) = n := by
  have h1 := h.2.length_eq
  have h0 := h.1
  unfold atomsL at h1
  rw [List.length_map, List.length_range] at h1
  omega
theorem PermOf.rng (h : PermOf pm n) {x : Int} : x ∈ pm ↔ 1 ≤ x ∧ x ≤ n := by
  rw [h.2.mem_iff, atoms_mem]
  have := h.1
  constructor <;> (rintro ⟨a, b⟩; constructor <;> omega)
theorem PermOf.nd (h : PermOf pm n) : pm.Nodup := h.2.nodup_iff.2 (pair_nodup2 (atoms_pair _))
theorem PermOf.get (h : PermOf pm n) {x : Int} (h0 : 1 ≤ x) (h1 : x ≤ n) : ∃ y, pm[x.toNat - 1]? = some y ∧ mvI pm x = y ∧ mvI pm (-x) = -y ∧ 1 ≤ y ∧ y ≤ n := by
  have hl := h.len
  have hi : x.toNat - 1 < pm.length := by omega
  have hg := List.getElem?_eq_getElem hi
  refine ⟨pm[x.toNat - 1], hg, ?_, ?_, h.rng.1 (List.getElem_mem hi)⟩
  · unfold mvI; rw [if_pos (by omega), List.getD_eq_getElem?_getD, hg]; rfl
  · unfold mvI; rw [if_neg (by omega), List.getD_eq_getElem?_getD, Int.neg_neg, hg]; rfl
theorem litB_iff {x n : Int} : litB x n = true ↔ x ≠ 0 ∧ -n ≤ x ∧ x ≤ n := by
  unfold litB
  simp only [Bool.and_eq_true, bne_iff_ne, decide_eq_true_eq]
/-- A literal is an atom or its negation. -/
theorem lit_cases {x : Int} (h : litB x n = true) : (1 ≤ x ∧ x ≤ n) ∨ ∃ a, x = -a ∧ 1 ≤ a ∧ a ≤ n := by
  rw [litB_iff] at h
  by_cases h0 : 0 < x
  · exact .inl ⟨by omega, h.2.2⟩
  · exact .inr ⟨-x, by omega, by omega, by omega⟩
theorem mv_lit (h : PermOf pm n) {x : Int} (hx : litB x n = true) : litB (mvI pm x) n = true := by
  rw [litB_iff]
  rcases lit_cases hx with ⟨h0, h1⟩ | ⟨a, rfl, h0, h1⟩
  · obtain ⟨y, _, e, _, y0, y1⟩ := h.get h0 h1; rw [e]; omega
  · obtain ⟨y, _, _, e, y0, y1⟩ := h.get h0 h1; rw [e]; omega
theorem mv_pos (h : PermOf pm n) {x : Int} (h0 : 1 ≤ x) (h1 : x ≤ n) : 1 ≤ mvI pm x ∧ mvI pm x ≤ n := by
  obtain ⟨y, _, e, _, y0, y1⟩ := h.get h0 h1; rw [e]; exact ⟨y0, y1⟩
theorem mv_inj (h : PermOf pm n) {x y : Int} (hx : 1 ≤ x ∧ x ≤ n) (hy : 1 ≤ y ∧ y ≤ n) (he : mvI pm x = mvI pm y) : x = y := by
  obtain ⟨a, a1, a2, _⟩ := h.get hx.1 hx.2
  obtain ⟨b, b1, b2, _⟩ := h.get hy.1 hy.2
  have hl := h.len
  have := (List.getElem?_inj (by omega) h.nd).1 (show pm[x.toNat - 1]? = pm[y.toNat - 1]? by rw [a1, b1, ← a2, ← b2, he])
  omega
theorem mv_neg (h : PermOf pm n) {x : Int} (h0 : 1 ≤ x) (h1 : x ≤ n) : mvI pm (-x) = -mvI pm x := by
  obtain ⟨y, _, e, f, _⟩ := h.get h0 h1; rw [e, f]
theorem mv_onto (h : PermOf pm n) {y : Int} (h0 : 1 ≤ y) (h1 : y ≤ n) : ∃ x, 1 ≤ x ∧ x ≤ n ∧ mvI pm x = y := by
  obtain ⟨i, hi, e⟩ := List.mem_iff_getElem.1 (h.rng.2 ⟨h0, h1⟩)
  have hl := h.len
  refine ⟨(i : Int) + 1, by omega, by omega, ?_⟩
  obtain ⟨z, z1, z2, _⟩ := h.get (x := (i : Int) + 1) (by omega) (by omega)
  rw [show ((i : Int) + 1).toNat - 1 = i by omega, List.getElem?_eq_getElem hi] at z1
  injection z1 with z1
  rw [z2, ← z1, e]
end
/-- Sums over literals that are put in order. -/
theorem sumG_zip (f : Int → Bool) : ∀ xs ys : List Int, sumG f xs ys = ((xs.zip ys).map fun p => if f p.1 then p.2 else 0).sum
  | [], _ => by simp [sumG]
  | _ :: _, [] => by simp [sumG]
  | x :: xs, y :: ys => by rw [sumG, sumG_zip f xs ys, List.zip_cons_cons, List.map_cons, List.sum_cons]
theorem sumG_map (f g : Int → Bool) (h : Int → Int) : ∀ xs ys : List Int, (∀ x ∈ xs, f (h x) = g x) → sumG f (xs.map h) ys = sumG g xs ys
  | [], _, _ => by simp [sumG]
  | _ :: _, [], _ => by simp [sumG]
  | x :: xs, y :: ys, e => by
    rw [List.map_cons, sumG, sumG, e x (by simp), sumG_map f g h xs ys fun z hz => e z (by simp [hz])]
def sumD (f : Int → Bool) (t : Int → Int) (D : List Int) : Int := (D.map fun x => if f x then t x else 0).sum
theorem sumG_D (f : Int → Bool) (t : Int → Int) : ∀ D : List Int, sumG f D (D.map t) = sumD f t D
  | [] => rfl
  | x :: D => by rw [List.map_cons, sumG, sumG_D f t D]; unfold sumD; rw [List.map_cons, List.sum_cons]
theorem sumD_add (f : Int → Bool) (s t : Int → Int) : ∀ D : List Int, sumD f (fun x => s x + t x) D = sumD f s D + sumD f t D
  | [] => rfl
  | x :: D => by
    have ih := sumD_add f s t D
    unfold sumD at ih ⊢
    rw [List.map_cons, List.sum_cons, List.map_cons, List.sum_cons, List.map_cons, List.sum_cons, ih]
    cases f x <;> simp <;> omega
theorem sumD_zero (f : Int → Bool) (t : Int → Int) : ∀ D : List Int, (∀ x ∈ D, t x = 0) → sumD f t D = 0
  | [], _ => rfl
  | x :: D, h => by
    have ih := sumD_zero f t D fun y hy => h y (by simp [hy])
    unfold sumD at ih ⊢
    rw [List.map_cons, List.sum_cons, ih, h x (by simp)]
    cases f x <;> rfl
theorem sumD_one (f : Int → Bool) (z v : Int) : ∀ D : List Int, D.Nodup → z ∈ D → sumD f (fun x => if z = x then v else 0) D = if f z then v else 0
  | [], _, h => by simp at h
  | x :: D, hn, h => by
    rw [List.nodup_cons] at hn
    by_cases e : z = x
    · subst e
      have ih := sumD_zero f (fun x => if z = x then v else 0) D fun y hy => if_neg fun (e : z = y) => hn.1 (by rw [e]; exact hy)
      unfold sumD at ih ⊢
      rw [List.map_cons, List.sum_cons, ih]
      simp
    · have ih := sumD_one f z v D hn.2 (by
        rcases List.mem_cons.1 h with h | h
        · exact absurd h e
        · exact h)
      unfold sumD at ih ⊢
      rw [List.map_cons, List.sum_cons, ih]
      simp [e]
theorem sumD_tot (f : Int → Bool) {D : List Int} (hn : D.Nodup) : ∀ zs : List (Int × Int), (∀ p ∈ zs, p.1 ∈ D) → sumD f (totP zs) D = (zs.map fun p => if f p.1 then p.2 else 0).sum
  | [], _ => sumD_zero f _ D fun _ _ => rfl
  | p :: zs, h => by
    have e : totP (p :: zs) = fun x => (if p.1 = x then p.2 else 0) + totP zs x := by
      funext x; unfold totP; rw [List.map_cons, List.sum_cons]
    rw [e, sumD_add, sumD_one f p.1 p.2 D hn (h p (by simp)), sumD_tot f hn zs fun q hq => h q (by simp [hq]), List.map_cons, List.sum_cons]
theorem lits_nodup (xs : List Int) : (litsOf xs).Nodup := (lits_sorted xs).imp fun h e => by rw [e, litLt_irr] at h; cases h
theorem sumG_norm (f : Int → Bool) (L W : List Int) : sumG f (litsOf L) ((litsOf L).map (totP (L.zip W))) = sumG f L W := by
  rw [sumG_D, sumD_tot f (lits_nodup L) _ (fun p hp => (lits_mem _ _).2 (List.of_mem_zip hp).1), sumG_zip]
theorem sumG_all : ∀ xs ys : List Int, ys.length = xs.length → sumG (fun _ => true) xs ys = ys.sum
  | [], ys, h => by
    have : ys = [] := List.eq_nil_of_length_eq_zero (by simpa using h)
    subst this; rfl
  | _ :: _, [], h => by simp at h
  | x :: xs, y :: ys, h => by rw [sumG, sumG_all xs ys (by simpa using h), List.sum_cons]; rfl
theorem totP_one : ∀ {zs : List (Int × Int)} {x : Int}, x ∈ zs.map Prod.fst → (∀ p ∈ zs, 1 ≤ p.2) → 1 ≤ totP zs x
  | [], x, h, _ => by simp at h
  | p :: zs, x, h, hp => by
    have h0 := totP_bd (zs := zs) x fun q hq => by have := hp q (by simp [hq]); omega
    have h1 := hp p (by simp)
    have e : totP (p :: zs) x = (if p.1 = x then p.2 else 0) + totP zs x := by unfold totP; rw [List.map_cons, List.sum_cons]
    rw [e]
    split
    · omega
    · rename_i hne
      have h2 := totP_one (zs := zs) (x := x) (by
        rw [List.map_cons] at h
        rcases List.mem_cons.1 h with h | h
        · exact absurd h.symm hne
        · exact h) fun q hq => hp q (by simp [hq])
      omega
/-- Norm gives a valid rule. -/
theorem inc_lits {n : Int} {xs : List Int} (h : ∀ a ∈ xs, 1 ≤ a ∧ a ≤ n) : incB n (litsOf xs) = true := by
  have hm : ∀ x ∈ litsOf xs, 1 ≤ x ∧ x ≤ n := fun x hx => h x ((lits_mem _ _).1 hx)
  unfold incB ordB
  rw [Bool.and_eq_true, ordGo_iff, List.all_eq_true]
  exact ⟨⟨fun x hx => litB_iff.2 (by have := hm x hx; omega), lits_sorted xs, fun y e => by cases e⟩, fun x hx => decide_eq_true (by have := hm x hx; omega)⟩
theorem ord_lits {n : Int} {xs : List Int} (h : ∀ x ∈ xs, litB x n = true) : ordB n (litsOf xs) = true := by
  unfold ordB
  rw [ordGo_iff]
  exact ⟨fun x hx => h x ((lits_mem _ _).1 hx), lits_sorted xs, fun y e => by cases e⟩
theorem wt_lits {xs ys : List Int} (hl : ys.length = xs.length) (h : wtGo 0 ys = true) : wtGo 0 ((litsOf xs).map (totP (xs.zip ys))) = true := by
  have hw := wtGo_spec ys 0 (by omega) (by omega) h
  refine wtGo_of _ _ (fun y hy => ?_) ?_
  · obtain ⟨x, hx, rfl⟩ := List.mem_map.1 hy
    refine totP_one ?_ fun p hp => hw.1 _ (List.of_mem_zip hp).2
    rw [List.map_fst_zip (by omega)]
    exact (lits_mem _ _).1 hx
  · have e := sumG_norm (fun _ => true) xs ys
    rw [sumG_all _ _ (by rw [List.length_map]), sumG_all _ _ hl] at e
    rw [e]; exact hw.2
theorem lits_ne {xs : List Int} (h : xs ≠ []) : litsOf xs ≠ [] := by
  obtain ⟨x, hx⟩ := List.exists_mem_of_ne_nil _ h
  exact List.ne_nil_of_mem ((lits_mem x xs).2 hx)
theorem norm_is {r : GRule} {n : Int} (h : PreRule r n) : RuleIs (normR r) n := by
  refine ⟨h.n0, h.n1, inc_lits h.head, fun hc => lits_ne (h.choice hc), ord_lits h.body, fun hs => ?_, fun hs => ?_, fun hs => ?_, h.b0, h.b1⟩
  · have hs : r.sum = false := hs
    exact ⟨by unfold normR; rw [hs]; rfl, (h.plain hs).2⟩
  · have hs : r.sum = true := hs
    unfold normR; rw [hs, if_pos rfl, List.length_map]
  · have hs : r.sum = true := hs
    unfold normR; rw [hs, if_pos rfl]; exact wt_lits (h.wlen hs) (h.wt hs)
section
variable {pm : List Int} {n : Int}
theorem ord_lit {xs : List Int} (h : ordB n xs = true) : ∀ x ∈ xs, litB x n = true := by
  unfold ordB at h; exact ((ordGo_iff _ _ _).1 h).1
theorem pre_mv (h : PermOf pm n) {r : GRule} (hr : RuleIs r n) : PreRule (mvR (mvI pm) r) n := by
  have h0 := hr.n0
  have h1 := hr.n1
  refine ⟨hr.n0, hr.n1, fun a ha => ?_, fun hc e => hr.choice hc (List.map_eq_nil_iff.1 e), fun x hx => ?_, hr.plain, fun hs => ?_, hr.wt, hr.b0, hr.b1, ?_, ?_⟩
  · obtain ⟨b, hb, rfl⟩ := List.mem_map.1 ha
    have := inc_mem hr.head b hb
    exact mv_pos h this.1 this.2
  · obtain ⟨b, hb, rfl⟩ := List.mem_map.1 hx
    exact mv_lit h (ord_lit hr.body b hb)
  · show r.w.length = (r.body.map _).length
    rw [List.length_map]; exact hr.wlen hs
  · show (r.head.map _).length ≤ _
    rw [List.length_map]; have := inc_lenN h0 hr.head; omega
  · show (r.body.map _).length ≤ _
    rw [List.length_map]; have := ordB_len h0 hr.body; omega
/-- The names. -/
theorem mvNgo_is : ∀ (qs : List Int) (ss acc : List ByteArray), qs.Nodup → (∀ q ∈ qs, 1 ≤ q ∧ q ≤ (acc.length : Int)) → ss.length = qs.length →
    (mvNgo qs ss acc).length = acc.length ∧ (∀ (i : Nat) (q : Int) (s : ByteArray), qs[i]? = some q → ss[i]? = some s → (mvNgo qs ss acc)[(q - 1).toNat]? = some s) ∧ ∀ j : Nat, ((j : Int) + 1) ∉ qs → (mvNgo qs ss acc)[j]? = acc[j]?
  | [], ss, acc, _, _, _ => ⟨by simp [mvNgo], fun i q s h => by simp at h, fun j _ => by simp [mvNgo]⟩
  | q :: qs, [], acc, _, _, h => by simp at h
  | q :: qs, s :: ss, acc, hn, hq, hl => by
    rw [List.nodup_cons] at hn
    have hq0 := hq q (by simp)
    obtain ⟨h1, h2, h3⟩ := mvNgo_is qs ss (acc.set (q - 1).toNat s) hn.2 (fun x hx => by rw [List.length_set]; exact hq x (by simp [hx])) (by simpa using hl)
    have e : mvNgo (q :: qs) (s :: ss) acc = mvNgo qs ss (acc.set (q - 1).toNat s) := rfl
    rw [e]
    refine ⟨by rw [h1, List.length_set], fun i x t hx ht => ?_, fun j hj => ?_⟩
    · cases i with
      | zero =>
        simp at hx ht
        subst hx; subst ht
        rw [h3 (q - 1).toNat (by rw [show (((q - 1).toNat : Nat) : Int) + 1 = q by omega]; exact hn.1), List.getElem?_set_self (by omega)]
      | succ i => exact h2 i x t (by simpa using hx) (by simpa using ht)
    · rw [h3 j fun hm => hj (by simp [hm]), List.getElem?_set_ne (fun he => hj (by rw [show ((j : Nat) : Int) + 1 = q by omega]; simp))]
theorem mvN_perm (h : PermOf pm n) {ns : List ByteArray} (hl : (ns.length : Int) = n) : (mvN pm ns).Perm ns := by
  have hpl := h.len
  obtain ⟨h1, h2, _⟩ := mvNgo_is pm ns (List.replicate ns.length ByteArray.empty) h.nd (fun q hq => by rw [List.length_replicate]; have := h.rng.1 hq; omega) (by omega)
  change (mvN pm ns).length = _ at h1
  rw [List.length_replicate] at h1
  have h2 : ∀ (i : Nat) (q : Int) (s : ByteArray), pm[i]? = some q → ns[i]? = some s → (mvN pm ns)[(q - 1).toNat]? = some s := h2
  have e1 : ns = pm.map fun q => (mvN pm ns).getD (q - 1).toNat ByteArray.empty := by
    apply List.ext_getElem?
    intro i
    rw [List.getElem?_map]
    rcases Nat.lt_or_ge i pm.length with hi | hi
    · rw [List.getElem?_eq_getElem hi, Option.map_some, List.getD_eq_getElem?_getD, h2 i _ _ (List.getElem?_eq_getElem hi) (List.getElem?_eq_getElem (show i < ns.length by omega)), List.getElem?_eq_getElem (show i < ns.length by omega)]; rfl
    · rw [List.getElem?_eq_none hi, List.getElem?_eq_none (by omega)]; rfl
  have e2 : mvN pm ns = (atomsL n.toNat).map fun q => (mvN pm ns).getD (q - 1).toNat ByteArray.empty := by
    apply List.ext_getElem?
    intro i
    unfold atomsL
    rw [List.getElem?_map, List.getElem?_map]
    rcases Nat.lt_or_ge i n.toNat with hi | hi
    · rw [List.getElem?_range hi, Option.map_some, Option.map_some, List.getD_eq_getElem?_getD, show ((i : Int) + 1 - 1).toNat = i by omega, List.getElem?_eq_getElem (show i < (mvN pm ns).length by omega)]; rfl
    · rw [List.getElem?_eq_none (show (mvN pm ns).length ≤ i by omega), List.getElem?_eq_none (show (List.range n.toNat).length ≤ i by rw [List.length_range]; exact hi)]; rfl
  have e3 := (h.2.map fun q => (mvN pm ns).getD (q - 1).toNat ByteArray.empty)
  rw [← e1, ← e2] at e3
  exact e3.symm
theorem namesGo_iff : ∀ (xs seen : List ByteArray), (∀ t ∈ seen, t.size ≠ 0) → (namesGo seen xs = true ↔ (∀ s ∈ xs, s.size ≤ 200 ∧ nlB s = false) ∧ (xs.filter fun s => decide (s.size ≠ 0)).Nodup ∧ ∀ s ∈ xs, s ∉ seen)
  | [], seen, _ => by simp [namesGo]
  | x :: r, seen, hs => by
    have hh : ∀ l : List ByteArray, hasS x l = true ↔ x ∈ l := fun l => by
      unfold hasS; rw [List.any_eq_true]
      constructor
      · rintro ⟨t, ht, e⟩; rw [← of_decide_eq_true e]; exact ht
      · exact fun h => ⟨x, h, decide_eq_true rfl⟩
    rw [namesGo_cons, Bool.and_eq_true, Bool.not_eq_true', Bool.or_eq_false_iff, Bool.or_eq_false_iff, decide_eq_false_iff_not, ← Bool.not_eq_true (hasS x seen), hh]
    by_cases h0 : x.size = 0
    · rw [if_pos h0, namesGo_iff r seen hs, List.filter_cons_of_neg (by simp [h0])]
      constructor
      · rintro ⟨⟨a, b, c⟩, d, e, f⟩
        exact ⟨fun s hm => by
          rcases List.mem_cons.1 hm with rfl | hm
          · exact ⟨by omega, b⟩
          · exact d s hm, e, fun s hm => by
          rcases List.mem_cons.1 hm with rfl | hm
          · exact c
          · exact f s hm⟩
      · rintro ⟨a, b, c⟩
        exact ⟨⟨by have := (a x (by simp)).1; omega, (a x (by simp)).2, c x (by simp)⟩, fun s hm => a s (by simp [hm]), b, fun s hm => c s (by simp [hm])⟩
    · rw [if_neg h0, namesGo_iff r (x :: seen) (fun t ht => by
        rcases List.mem_cons.1 ht with rfl | ht
        · exact h0
        · exact hs t ht), List.filter_cons_of_pos (by simp [h0]), List.nodup_cons]
      constructor
      · rintro ⟨⟨a, b, c⟩, d, e, f⟩
        exact ⟨fun s hm => by
          rcases List.mem_cons.1 hm with rfl | hm
          · exact ⟨by omega, b⟩
          · exact d s hm, ⟨fun hm => f x (List.mem_filter.1 hm).1 (by simp), e⟩, fun s hm => by
          rcases List.mem_cons.1 hm with rfl | hm
          · exact c
          · exact fun h => f s hm (by simp [h])⟩
      · rintro ⟨a, ⟨b, b'⟩, c⟩
        exact ⟨⟨by have := (a x (by simp)).1; omega, (a x (by simp)).2, c x (by simp)⟩, fun s hm => a s (by simp [hm]), b', fun s hm h => by
          rcases List.mem_cons.1 h with rfl | h
          · exact b (List.mem_filter.2 ⟨hm, by simp [h0]⟩)
          · exact c s (by simp [hm]) h⟩
theorem names_perm {xs ys : List ByteArray} (hp : xs.Perm ys) (h : namesGo [] ys = true) : namesGo [] xs = true := by
  rw [namesGo_iff _ _ (by simp)] at h ⊢
  exact ⟨fun s hs => h.1 s (hp.mem_iff.1 hs), (hp.filter _).nodup_iff.2 h.2.1, by simp⟩
/-- The levels. -/
theorem minOk_mv (h : PermOf pm n) {m : GMin} (hm : minOk n m = true) : minOk n (mvM pm m) = true := by
  unfold minOk at hm ⊢
  simp only [Bool.and_eq_true] at hm ⊢
  obtain ⟨⟨⟨a, b⟩, c⟩, d⟩ := hm
  unfold wtB at b ⊢
  rw [Bool.and_eq_true, decide_eq_true_eq] at b ⊢
  refine ⟨⟨⟨?_, ?_, ?_⟩, c⟩, d⟩
  · exact ord_lits fun x hx => by
      obtain ⟨y, hy, rfl⟩ := List.mem_map.1 hx
      exact mv_lit h (ord_lit a y hy)
  · exact wt_lits (by rw [List.length_map]; exact b.2) b.1
  · show (List.map _ _).length = _
    rw [List.length_map]; rfl
theorem minGo_mv (h : PermOf pm n) : ∀ (ms : List GMin) (q : Option GMin), minGoE n q ms = true → minGoE n (q.map (mvM pm)) (ms.map (mvM pm)) = true
  | [], _, _ => rfl
  | m :: r, q, hm => by
    rw [minGoE_cons, Bool.and_eq_true, Bool.and_eq_true] at hm
    rw [List.map_cons, minGoE_cons, Bool.and_eq_true, Bool.and_eq_true]
    refine ⟨⟨minOk_mv h hm.1.1, ?_⟩, minGo_mv h r (some m) hm.2⟩
    cases q with
    | none => rfl
    | some l => exact hm.1.2
theorem renP_is {p : GProg} (hp : ProgIs p) (h : PermOf pm p.n) : ProgIs (renP pm p) := by
  refine ⟨?_, ?_, fun r hr => ?_, ?_, minGo_mv h p.min none hp.min⟩
  · have h1 := hp.named
    unfold namedB at h1 ⊢
    simp only [Bool.and_eq_true, decide_eq_true_eq] at h1 ⊢
    obtain ⟨⟨⟨⟨a, b⟩, c⟩, d⟩, e⟩ := h1
    have hpm := mvN_perm h c
    refine ⟨⟨⟨⟨a, b⟩, ?_⟩, ?_⟩, names_perm hpm e⟩
    · show (((mvN pm p.names).length : Nat) : Int) = p.n
      rw [hpm.length_eq]; exact c
    · exact inc_lits fun x hx => by
        obtain ⟨y, hy, rfl⟩ := List.mem_map.1 hx
        have := inc_mem d y hy
        exact mv_pos h this.1 this.2
  · show (p.rules.map _).length ≤ 40000
    rw [List.length_map]; exact hp.few
  · obtain ⟨x, hx, rfl⟩ := List.mem_map.1 hr
    exact norm_is (pre_mv h (hp.rules x hx))
  · show (p.min.map _).length ≤ 8
    rw [List.length_map]; exact hp.mins
/-- A map of literals: atoms go to atoms, negations to negations. -/
def LMap (f : Int → Int) (n : Int) : Prop := ∀ a, 1 ≤ a → a ≤ n → 1 ≤ f a ∧ f (-a) = -f a
theorem PermOf.lmap (h : PermOf pm n) : LMap (mvI pm) n := fun _ h0 h1 => ⟨(mv_pos h h0 h1).1, mv_neg h h0 h1⟩
/-- The set m' holds where the atoms of m go. -/
def Mvd (f : Int → Int) (n : Int) (m m' : List Int) : Prop := ∀ a, 1 ≤ a → a ≤ n → (f a ∈ m' ↔ a ∈ m)
section
variable {f : Int → Int}
theorem lit_mv (h : LMap f n) {m m' s s' : List Int} (hm : Mvd f n m m') (hs : Mvd f n s s') {x : Int} (hx : litB x n = true) : litM m' s' (f x) = litM m s x := by
  unfold litM
  rcases lit_cases hx with ⟨h0, h1⟩ | ⟨a, rfl, h0, h1⟩
  · have h2 := h _ h0 h1
    rw [if_pos (by omega), if_pos (by omega), Bool.eq_iff_iff, decide_eq_true_eq, decide_eq_true_eq]
    exact hs x h0 h1
  · have h2 := h _ h0 h1
    rw [h2.2, if_neg (by omega), if_neg (by omega), Int.neg_neg, Int.neg_neg, show decide (f a ∈ m') = decide (a ∈ m) from by rw [Bool.eq_iff_iff, decide_eq_true_eq, decide_eq_true_eq]; exact hm a h0 h1]
theorem all_lits (f : Int → Bool) (xs : List Int) : (litsOf xs).all f = xs.all f := by
  rw [Bool.eq_iff_iff, List.all_eq_true, List.all_eq_true]
  exact ⟨fun h x hx => h x ((lits_mem _ _).2 hx), fun h x hx => h x ((lits_mem _ _).1 hx)⟩
theorem any_lits (f : Int → Bool) (xs : List Int) : (litsOf xs).any f = xs.any f := by
  rw [Bool.eq_iff_iff, List.any_eq_true, List.any_eq_true]
  exact ⟨fun ⟨x, hx, h⟩ => ⟨x, (lits_mem _ _).1 hx, h⟩, fun ⟨x, hx, h⟩ => ⟨x, (lits_mem _ _).2 hx, h⟩⟩
theorem bodyM_norm (r : GRule) (m s : List Int) : bodyM (normR r) m s = bodyM r m s := by
  unfold bodyM normR
  cases hs : r.sum with
  | true =>
    simp only [if_true]
    rw [sumG_norm]
  | false =>
    simp only [Bool.false_eq_true, if_false]
    exact all_lits _ _
theorem bodyM_mv (h : LMap f n) {m m' s s' : List Int} (hm : Mvd f n m m') (hs : Mvd f n s s') {r : GRule} (hb : ∀ x ∈ r.body, litB x n = true) : bodyM (normR (mvR f r)) m' s' = bodyM r m s := by
  rw [bodyM_norm]
  have e : ∀ x ∈ r.body, litM m' s' (f x) = litM m s x := fun x hx => lit_mv h hm hs (hb x hx)
  unfold bodyM mvR
  simp only
  rw [sumG_map _ _ _ _ _ e, List.all_map]
  rw [show r.body.all (litM m' s' ∘ f) = r.body.all (litM m s) from by
    rw [Bool.eq_iff_iff, List.all_eq_true, List.all_eq_true]
    exact ⟨fun k x hx => by rw [← e x hx]; exact k x hx, fun k x hx => by show litM m' s' (f x) = true; rw [e x hx]; exact k x hx⟩]
theorem body_mv (h : LMap f n) {m m' : List Int} (hm : Mvd f n m m') {r : GRule} (hb : ∀ x ∈ r.body, litB x n = true) : bodyB (normR (mvR f r)) m' = bodyB r m := by
  rw [← bodyM_self, ← bodyM_self]; exact bodyM_mv h hm hm hb
theorem dec_mv {m m' : List Int} (hm : Mvd f n m m') {a : Int} (h0 : 1 ≤ a) (h1 : a ≤ n) : decide (f a ∈ m') = decide (a ∈ m) := by
  rw [Bool.eq_iff_iff, decide_eq_true_eq, decide_eq_true_eq]; exact hm a h0 h1
theorem head_any_mv {m m' : List Int} (hm : Mvd f n m m') {hd : List Int} (hh : ∀ a ∈ hd, 1 ≤ a ∧ a ≤ n) : (litsOf (hd.map (f))).any (fun a => decide (a ∈ m')) = hd.any (fun a => decide (a ∈ m)) := by
  rw [any_lits, List.any_map, Bool.eq_iff_iff, List.any_eq_true, List.any_eq_true]
  exact exists_congr fun a => ⟨fun ⟨ha, k⟩ => ⟨ha, by rw [← dec_mv hm (hh a ha).1 (hh a ha).2]; exact k⟩, fun ⟨ha, k⟩ => ⟨ha, by show decide (f a ∈ m') = true; rw [dec_mv hm (hh a ha).1 (hh a ha).2]; exact k⟩⟩
theorem sat_mv (h : LMap f n) {m m' : List Int} (hm : Mvd f n m m') {r : GRule} (hr : RuleIs r n) : satB (normR (mvR f r)) m' = satB r m := by
  unfold satB
  rw [body_mv h hm (ord_lit hr.body)]
  rw [show (normR (mvR f r)).head = litsOf (r.head.map (f)) from rfl, head_any_mv hm (inc_mem hr.head)]
  rfl
theorem redB_mv (h : LMap f n) {m m' s s' : List Int} (hm : Mvd f n m m') (hs : Mvd f n s s') {r : GRule} (hr : RuleIs r n) : redB (normR (mvR f r)) m' s' = redB r m s := by
  unfold redB
  rw [bodyM_mv h hm hs (ord_lit hr.body)]
  rw [show (normR (mvR f r)).head = litsOf (r.head.map (f)) from rfl, head_any_mv hs (inc_mem hr.head), all_lits, List.all_map]
  rw [show (r.head.all ((fun a => !decide (a ∈ m') || decide (a ∈ s')) ∘ f)) = r.head.all (fun a => !decide (a ∈ m) || decide (a ∈ s)) from by
    have e : ∀ a ∈ r.head, (!decide (f a ∈ m') || decide (f a ∈ s')) = (!decide (a ∈ m) || decide (a ∈ s)) := fun a ha => by
      have := inc_mem hr.head a ha
      rw [dec_mv hm this.1 this.2, dec_mv hs this.1 this.2]
    rw [Bool.eq_iff_iff, List.all_eq_true, List.all_eq_true]
    exact ⟨fun k x hx => by rw [← e x hx]; exact k x hx, fun k x hx => by show (!decide (f x ∈ m') || decide (f x ∈ s')) = true; rw [e x hx]; exact k x hx⟩]
  rfl
end
theorem idxGo_map {α β : Type} (f : β → Bool) (g : α → β) : ∀ (l : List α) (k : Int), idxGo f k (l.map g) = idxGo (fun x => f (g x)) k l
  | [], _ => rfl
  | x :: l, k => by
    rw [List.map_cons]
    unfold idxGo
    rw [idxGo_map f g l]
theorem idxGo_congr {α : Type} {f g : α → Bool} : ∀ (l : List α) (k : Int), (∀ x ∈ l, f x = g x) → idxGo f k l = idxGo g k l
  | [], _, _ => rfl
  | x :: l, k, h => by
    unfold idxGo
    rw [h x (by simp), idxGo_congr l _ fun y hy => h y (by simp [hy])]
theorem broken_mv {p : GProg} (hp : ProgIs p) (h : PermOf pm p.n) {m m' : List Int} (hm : Mvd (mvI pm) p.n m m') : brokenI (renP pm p) m' = brokenI p m := by
  unfold brokenI renP
  simp only
  rw [idxGo_map]
  exact idxGo_congr _ _ fun r hr => by rw [sat_mv h.lmap hm (hp.rules r hr)]
end
end Go.Proofs.YtdmcclfagjgcgaaGreat
/- Renaming atoms (plain): stable models and costs of the renamed program; every atom of a stable model is supported. -/
namespace Go.Proofs.YtdmcclfagjgcgaaGreat
open Go.RowKit

theorem minGo_mem {n : Int} : ∀ (ms : List GMin) (q : Option GMin), minGoE n q ms = true → ∀ l ∈ ms, minOk n l = true
  | [], _, _, l, h => by simp at h
  | m :: r, q, h, l, hl => by
    rw [minGoE_cons, Bool.and_eq_true, Bool.and_eq_true] at h
    rcases List.mem_cons.1 hl with rfl | hl
    · exact h.1.1
    · exact minGo_mem r _ h.2 l hl
theorem cost_mv {pm : List Int} {p : GProg} (hp : ProgIs p) (h : PermOf pm p.n) {m m' : List Int} (hm : Mvd (mvI pm) p.n m m') : costL (renP pm p) m' = costL p m := by
  unfold costL renP
  simp only
  rw [List.map_map]
  refine List.map_congr_left fun l hl => ?_
  show sumT (litsOf (l.lits.map (mvI pm))) ((litsOf (l.lits.map (mvI pm))).map (totP ((l.lits.map (mvI pm)).zip l.w))) m' = sumT l.lits l.w m
  have ho := minGo_mem _ _ hp.min l hl
  unfold minOk at ho
  simp only [Bool.and_eq_true] at ho
  rw [sumG_true, sumG_true, sumG_norm]
  exact sumG_map _ _ _ _ _ fun x hx => lit_mv h.lmap hm hm (ord_lit ho.1.1.1 x hx)
theorem isL_mv {pm : List Int} {p : GProg} (hp : ProgIs p) (h : PermOf pm p.n) {m m' : List Int} (hm : incB p.n m = true) (hm' : incB p.n m' = true) (hv : Mvd (mvI pm) p.n m m') : isL (renP pm p) m' = isL p m := by
  have hr : ∀ {f g : GRule → Bool}, (∀ r ∈ p.rules, f (normR (mvR (mvI pm) r)) = g r) → ((∀ r ∈ (renP pm p).rules, f r = true) ↔ ∀ r ∈ p.rules, g r = true) := fun {f g} e => by
    constructor
    · intro k r hr; rw [← e r hr]; exact k _ (List.mem_map.2 ⟨r, hr, rfl⟩)
    · intro k r hr
      obtain ⟨x, hx, rfl⟩ := List.mem_map.1 hr
      rw [e x hx]; exact k x hx
  have i1 := inc_mem hm
  have i2 := inc_mem hm'
  rw [Bool.eq_iff_iff, isL_sem (renP_is hp h) hm' h.1, isL_sem hp hm h.1, hr fun r hx => sat_mv h.lmap hv (hp.rules r hx)]
  refine and_congr_right fun _ => ⟨fun k s hs hred x hx => ?_, fun k s' hs hred x hx => ?_⟩
  · have hsv : Mvd (mvI pm) p.n s (s.map (mvI pm)) := fun a h0 h1 => by
      constructor
      · intro ha
        obtain ⟨b, hb, e⟩ := List.mem_map.1 ha
        have := i1 b (hs b hb)
        rw [← mv_inj h this ⟨h0, h1⟩ e]; exact hb
      · exact fun ha => List.mem_map.2 ⟨a, ha, rfl⟩
    have hx0 := i1 x hx
    refine (hsv x hx0.1 hx0.2).1 (k (s.map (mvI pm)) (fun y hy => ?_) ?_ _ ((hv x hx0.1 hx0.2).2 hx))
    · obtain ⟨b, hb, rfl⟩ := List.mem_map.1 hy
      have := i1 b (hs b hb)
      exact (hv b this.1 this.2).2 (hs b hb)
    · exact (hr fun r hx => redB_mv h.lmap hv hsv (hp.rules r hx)).2 hred
  · have hsv : Mvd (mvI pm) p.n (m.filter fun a => decide (mvI pm a ∈ s')) s' := fun a h0 h1 => by
      rw [List.mem_filter, decide_eq_true_eq]
      exact ⟨fun ha => ⟨(hv a h0 h1).1 (hs _ ha), ha⟩, fun ha => ha.2⟩
    have hx0 := i2 x hx
    obtain ⟨a, a0, a1, rfl⟩ := mv_onto h hx0.1 hx0.2
    refine (hsv a a0 a1).2 (k _ (fun y hy => (List.mem_filter.1 hy).1) ?_ a ((hv a a0 a1).1 hx))
    exact (hr fun r hx => redB_mv h.lmap hv hsv (hp.rules r hx)).1 hred
/-- The set to which m goes, in order. -/
def movedL (pm m : List Int) (N : Nat) : List Int := (atomsL N).filter fun a => (List.range pm.length).any fun b => decide (pm.getD b 0 = a) && decide ((b : Int) + 1 ∈ m)
theorem moved_mem {pm m : List Int} {n : Int} (h : PermOf pm n) (hm : incB n m = true) {x : Int} : x ∈ movedL pm m n.toNat ↔ ∃ a ∈ m, mvI pm a = x := by
  have hl := h.len
  have i1 := inc_mem hm
  unfold movedL
  rw [List.mem_filter, atoms_mem, List.any_eq_true]
  constructor
  · rintro ⟨_, b, hb, e⟩
    rw [Bool.and_eq_true, decide_eq_true_eq, decide_eq_true_eq] at e
    refine ⟨(b : Int) + 1, e.2, ?_⟩
    have hb0 := i1 _ e.2
    unfold mvI
    rw [if_pos (by omega), show ((b : Int) + 1).toNat - 1 = b by omega]; exact e.1
  · rintro ⟨a, ha, rfl⟩
    have a0 := i1 a ha
    have h2 := mv_pos h a0.1 a0.2
    refine ⟨by omega, a.toNat - 1, List.mem_range.2 (by omega), ?_⟩
    rw [Bool.and_eq_true, decide_eq_true_eq, decide_eq_true_eq, show ((a.toNat - 1 : Nat) : Int) + 1 = a by omega]
    refine ⟨?_, ha⟩
    unfold mvI
    rw [if_pos (by omega)]
theorem moved_mvd {pm m : List Int} {n : Int} (h : PermOf pm n) (hm : incB n m = true) : Mvd (mvI pm) n m (movedL pm m n.toNat) := fun a h0 h1 => by
  rw [moved_mem h hm]
  exact ⟨fun ⟨b, hb, e⟩ => by rw [← mv_inj h (inc_mem hm b hb) ⟨h0, h1⟩ e]; exact hb, fun ha => ⟨a, ha, rfl⟩⟩
theorem moved_inc {pm m : List Int} {n : Int} (h0 : 0 ≤ n) : incB n (movedL pm m n.toNat) = true := by
  have := (atoms_sub n.toNat (movedL pm m n.toNat)).1 List.filter_sublist
  rwa [show ((n.toNat : Nat) : Int) = n by omega] at this
/-- What the inner loop of the law lays down for one atom. -/
theorem moved_row {pm m : List Int} {n : Int} (h : PermOf pm n) (a : Int) : ((List.range pm.length).filter fun b => decide (pm.getD b 0 = a) && decide ((b : Int) + 1 ∈ m)).map (fun _ => a) = if (List.range pm.length).any (fun b => decide (pm.getD b 0 = a) && decide ((b : Int) + 1 ∈ m)) then [a] else [] := by
  have hu : ∀ i j, i < pm.length → j < pm.length → pm.getD i 0 = a → pm.getD j 0 = a → i = j := fun i j hi hj e f => by
    rw [List.getD_eq_getElem?_getD, List.getElem?_eq_getElem hi] at e
    rw [List.getD_eq_getElem?_getD, List.getElem?_eq_getElem hj] at f
    exact (List.getElem?_inj hi h.nd).1 (by rw [List.getElem?_eq_getElem hi, List.getElem?_eq_getElem hj]; exact congrArg some (e.trans f.symm))
  generalize hL : (List.range pm.length).filter (fun b => decide (pm.getD b 0 = a) && decide ((b : Int) + 1 ∈ m)) = L
  have hnd : L.Nodup := by rw [← hL]; exact List.nodup_range.filter _
  have hm : ∀ i, i ∈ L ↔ i < pm.length ∧ pm.getD i 0 = a ∧ (i : Int) + 1 ∈ m := fun i => by
    rw [← hL, List.mem_filter, List.mem_range, Bool.and_eq_true, decide_eq_true_eq, decide_eq_true_eq]
  cases L with
  | nil =>
    rw [if_neg]
    · rfl
    · rw [List.any_eq_true]
      rintro ⟨i, hi, e⟩
      rw [Bool.and_eq_true, decide_eq_true_eq, decide_eq_true_eq] at e
      have := (hm i).2 ⟨List.mem_range.1 hi, e.1, e.2⟩
      simp at this
  | cons i L =>
    have h1 := (hm i).1 (by simp)
    have hL2 : L = [] := by
      cases L with
      | nil => rfl
      | cons j L =>
        exfalso
        have h2 := (hm j).1 (by simp)
        rw [List.nodup_cons] at hnd
        exact hnd.1 (by rw [hu i j h1.1 h2.1 h1.2.1 h2.2.1]; simp)
    subst hL2
    rw [if_pos]
    · rfl
    · rw [List.any_eq_true]
      exact ⟨i, List.mem_range.2 h1.1, by rw [Bool.and_eq_true, decide_eq_true_eq, decide_eq_true_eq]; exact h1.2⟩
theorem all_nodup (p : GProg) : (allL p).Nodup := (all_sorted p).imp fun h e => by rw [e, lexLt_irrefl] at h; cases h
theorem all_mv {pm : List Int} {p : GProg} (hp : ProgIs p) (h : PermOf pm p.n) : ((allL p).map fun m => movedL pm m p.n.toNat).Perm (allL (renP pm p)) := by
  have hn : (renP pm p).n = p.n := rfl
  refine (List.perm_ext_iff_of_nodup (nodup_map_on (all_nodup p) fun x hx y hy e => ?_) (all_nodup _)).2 fun x => ?_
  · have x1 := ((all_mem p h.1 x).1 hx).1
    have y1 := ((all_mem p h.1 y).1 hy).1
    refine inc_ext (inc_pair x1) (inc_pair y1) fun a => ?_
    by_cases ha : 1 ≤ a ∧ a ≤ p.n
    · rw [← moved_mvd h x1 a ha.1 ha.2, ← moved_mvd h y1 a ha.1 ha.2, e]
    · exact ⟨fun k => absurd (inc_mem x1 a k) ha, fun k => absurd (inc_mem y1 a k) ha⟩
  · rw [List.mem_map, all_mem (renP pm p) h.1, hn]
    constructor
    · rintro ⟨m, hm, rfl⟩
      obtain ⟨h1, h2⟩ := (all_mem p h.1 m).1 hm
      exact ⟨moved_inc h.1, by rw [isL_mv hp h h1 (moved_inc h.1) (moved_mvd h h1)]; exact h2⟩
    · rintro ⟨h1, h2⟩
      have hi : incB p.n ((atomsL p.n.toNat).filter fun a => decide (mvI pm a ∈ x)) = true := by
        have := (atoms_sub p.n.toNat ((atomsL p.n.toNat).filter fun a => decide (mvI pm a ∈ x))).1 List.filter_sublist
        rwa [show ((p.n.toNat : Nat) : Int) = p.n by have := h.1; omega] at this
      have hv : Mvd (mvI pm) p.n ((atomsL p.n.toNat).filter fun a => decide (mvI pm a ∈ x)) x := fun a a0 a1 => by
        rw [List.mem_filter, atoms_mem, decide_eq_true_eq]
        exact ⟨fun k => ⟨by omega, k⟩, fun k => k.2⟩
      refine ⟨_, (all_mem p h.1 _).2 ⟨hi, by rw [← isL_mv hp h hi h1 hv]; exact h2⟩, inc_ext (inc_pair (moved_inc h.1)) (inc_pair h1) fun y => ?_⟩
      rw [moved_mem h hi]
      constructor
      · rintro ⟨a, ha, rfl⟩; exact of_decide_eq_true (List.mem_filter.1 ha).2
      · intro hy
        have y0 := inc_mem h1 y hy
        obtain ⟨a, a0, a1, rfl⟩ := mv_onto h y0.1 y0.2
        exact ⟨a, List.mem_filter.2 ⟨(atoms_mem _ _).2 ⟨a0, by omega⟩, decide_eq_true hy⟩, rfl⟩
/-- Every atom of a stable model is in the head of a rule whose body is true. -/
theorem sumG_mono {f g : Int → Bool} : ∀ (xs ys : List Int), (∀ y ∈ ys, 0 ≤ y) → (∀ x ∈ xs, f x = true → g x = true) → sumG f xs ys ≤ sumG g xs ys
  | [], _, _, _ => by simp [sumG]
  | _ :: _, [], _, _ => by simp [sumG]
  | x :: xs, y :: ys, hy, h => by
    have h1 := hy y (by simp)
    have h2 := sumG_mono (f := f) (g := g) xs ys (fun z hz => hy z (by simp [hz])) fun z hz => h z (by simp [hz])
    have h3 := h x (by simp)
    rw [sumG, sumG]
    cases hf : f x with
    | false => cases g x <;> simp <;> omega
    | true => rw [h3 hf]; simp; omega
theorem bodyM_mono {r : GRule} {n : Int} (hr : RuleIs r n) {m s t : List Int} (h : ∀ x ∈ s, x ∈ t) (hb : bodyM r m s = true) : bodyM r m t = true := by
  have e : ∀ x, litM m s x = true → litM m t x = true := fun x hx => by
    unfold litM at hx ⊢
    split
    · rename_i h0; rw [if_pos h0] at hx; exact decide_eq_true (h x (of_decide_eq_true hx))
    · rename_i h0; rw [if_neg h0] at hx; exact hx
  unfold bodyM at hb ⊢
  cases hs : r.sum with
  | true =>
    rw [hs] at hb
    simp only [if_true] at hb ⊢
    have hb := of_decide_eq_true hb
    have hw := (wtGo_spec r.w 0 (by omega) (by omega) (hr.wt hs)).1
    have := sumG_mono (f := litM m s) (g := litM m t) r.body r.w (fun y hy => by have := hw y hy; omega) fun x _ => e x
    exact decide_eq_true (by omega)
  | false =>
    rw [hs] at hb
    simp only [Bool.false_eq_true, if_false] at hb ⊢
    rw [List.all_eq_true] at hb ⊢
    exact fun x hx => e x (hb x hx)
theorem supported {p : GProg} (hp : ProgIs p) {m : List Int} (hm : incB p.n m = true) (h0 : 0 ≤ p.n) (hs : isL p m = true) {a : Int} (ha : a ∈ m) : (p.rules.any fun r => decide (a ∈ r.head) && bodyB r m) = true := by
  obtain ⟨h1, h2⟩ := (isL_sem hp hm h0).1 hs
  cases hq : p.rules.any fun r => decide (a ∈ r.head) && bodyB r m with
  | true => rfl
  | false =>
    exfalso
    rw [List.any_eq_false] at hq
    have := h2 (m.filter fun x => decide (x ≠ a)) (fun x hx => (List.mem_filter.1 hx).1) (fun r hr => ?_) a ha
    · have := of_decide_eq_true (List.mem_filter.1 this).2
      exact this rfl
    · unfold redB
      cases hb : bodyM r m (m.filter fun x => decide (x ≠ a)) with
      | false => rfl
      | true =>
        have hb2 := bodyM_mono (hp.rules r hr) (t := m) (fun x hx => (List.mem_filter.1 hx).1) hb
        rw [bodyM_self] at hb2
        have hah : a ∉ r.head := fun hh => hq r hr (by rw [decide_eq_true hh, hb2]; rfl)
        have hin : ∀ x ∈ r.head, x ∈ m → x ∈ m.filter fun x => decide (x ≠ a) := fun x hx hxm => List.mem_filter.2 ⟨hxm, decide_eq_true fun e => hah (e ▸ hx)⟩
        have hsat := h1 r hr
        unfold satB at hsat
        rw [hb2] at hsat
        cases hc : r.choice with
        | true =>
          simp only [if_true, Bool.not_true, Bool.false_or]
          rw [List.all_eq_true]
          intro x hx
          by_cases hxm : x ∈ m
          · rw [decide_eq_true (hin x hx hxm)]; simp
          · rw [decide_eq_false hxm]; rfl
        | false =>
          rw [hc] at hsat
          simp only [Bool.not_true, Bool.false_or, Bool.false_eq_true, if_false] at hsat ⊢
          rw [List.any_eq_true] at hsat ⊢
          obtain ⟨x, hx, hxm⟩ := hsat
          exact ⟨x, hx, decide_eq_true (hin x hx (of_decide_eq_true hxm))⟩
end Go.Proofs.YtdmcclfagjgcgaaGreat
/- Rotations of the atoms (plain); what the loop that moves a set has laid down. -/
namespace Go.Proofs.YtdmcclfagjgcgaaGreat
open Go.RowKit

def rotL (n t : Int) (k : Nat) : List Int := (List.range k).map fun (i : Nat) => 1 + ((i : Int) + t) % n
theorem rotL_succ (n t : Int) (k : Nat) : rotL n t (k + 1) = rotL n t k ++ [1 + ((k : Int) + t) % n] := by
  unfold rotL; rw [List.range_succ, List.map_append]; rfl
theorem rotI_perm {n t : Int} (h0 : 0 < n) : PermOf (rotL n t n.toNat) n := by
  refine ⟨by omega, (List.perm_ext_iff_of_nodup (nodup_map_on List.nodup_range fun i hi j hj e => ?_) (pair_nodup2 (atoms_pair _))).2 fun x => ?_⟩
  · have hi := List.mem_range.1 hi
    have hj := List.mem_range.1 hj
    have e2 : ((i : Int) + t) % n = ((j : Int) + t) % n := by omega
    have e3 := Int.dvd_of_emod_eq_zero (Int.emod_eq_emod_iff_emod_sub_eq_zero.1 e2)
    obtain ⟨c, hc⟩ := e3
    have e4 : (i : Int) - j = n * c := by omega
    rcases Int.lt_trichotomy c 0 with h | h | h
    · have := Int.mul_le_mul_of_nonneg_left (show c ≤ -1 by omega) (show 0 ≤ n by omega)
      omega
    · subst h; omega
    · have := Int.mul_le_mul_of_nonneg_left (show 1 ≤ c by omega) (show 0 ≤ n by omega)
      omega
  · rw [List.mem_map, atoms_mem]
    constructor
    · rintro ⟨i, _, rfl⟩
      have a := Int.emod_nonneg ((i : Int) + t) (show n ≠ 0 by omega)
      have b := Int.emod_lt_of_pos ((i : Int) + t) h0
      omega
    · rintro ⟨a, b⟩
      have c1 := Int.emod_nonneg (x - 1 - t) (show n ≠ 0 by omega)
      have c2 := Int.emod_lt_of_pos (x - 1 - t) h0
      refine ⟨((x - 1 - t) % n).toNat, List.mem_range.2 (by omega), ?_⟩
      rw [show ((((x - 1 - t) % n).toNat : Nat) : Int) = (x - 1 - t) % n by omega, Int.emod_add_emod, show x - 1 - t + t = x - 1 by omega, Int.emod_eq_of_lt (by omega) (by omega)]
      omega
theorem rot_64 {n t : Int} (h0 : 0 < n) (h1 : n ≤ 4000) {k : Nat} : ∀ x ∈ rotL n t k, I64 x := fun x hx => by
  obtain ⟨i, _, rfl⟩ := List.mem_map.1 hx
  have a := Int.emod_nonneg ((i : Int) + t) (show n ≠ 0 by omega)
  have b := Int.emod_lt_of_pos ((i : Int) + t) h0
  unfold I64; omega
/-- Whether the permutation leads an atom of m to a. -/
def mvF (pm m : List Int) (a : Int) (b : Nat) : Bool := decide (pm.getD b 0 = a) && decide ((b : Int) + 1 ∈ m)
def movedU (pm m : List Int) (k : Nat) : List Int := (atomsL k).filter fun a => (List.range pm.length).any (mvF pm m a)
theorem movedU_all (pm m : List Int) (N : Nat) : movedU pm m N = movedL pm m N := rfl
theorem atoms_succ (k : Nat) : atomsL (k + 1) = atomsL k ++ [(k : Int) + 1] := by
  unfold atomsL; rw [List.range_succ, List.map_append]; rfl
/-- One row of the loop that moves a set. -/
def movedV (pm m : List Int) (k j : Nat) : List Int := movedU pm m k ++ ((List.range j).filter (mvF pm m ((k : Int) + 1))).map fun _ => (k : Int) + 1
theorem movedV_zero (pm m : List Int) (k : Nat) : movedV pm m k 0 = movedU pm m k := by unfold movedV; simp
theorem movedV_succ (pm m : List Int) (k j : Nat) : movedV pm m k (j + 1) = if mvF pm m ((k : Int) + 1) j then movedV pm m k j ++ [(k : Int) + 1] else movedV pm m k j := by
  unfold movedV
  rw [List.range_succ, List.filter_append]
  cases h : mvF pm m ((k : Int) + 1) j <;> simp [h]
theorem movedV_all {pm : List Int} {n : Int} (h : PermOf pm n) (m : List Int) (k : Nat) : movedV pm m k pm.length = movedU pm m (k + 1) := by
  have h1 := moved_row (m := m) h ((k : Int) + 1)
  unfold movedV movedU
  rw [atoms_succ, List.filter_append]
  congr 1
  rw [show (List.range pm.length).filter (mvF pm m ((k : Int) + 1)) = (List.range pm.length).filter fun b => decide (pm.getD b 0 = (k : Int) + 1) && decide ((b : Int) + 1 ∈ m) from rfl, h1, List.filter_cons, List.filter_nil]
  rfl
theorem movedV_len (pm m : List Int) (k j : Nat) : (movedV pm m k j).length ≤ k + j := by
  unfold movedV movedU
  rw [List.length_append, List.length_map]
  have h1 := List.length_filter_le (fun a => (List.range pm.length).any (mvF pm m a)) (atomsL k)
  have h2 := List.length_filter_le (mvF pm m ((k : Int) + 1)) (List.range j)
  unfold atomsL at h1 ⊢
  rw [List.length_map, List.length_range] at h1
  rw [List.length_range] at h2
  omega
theorem movedV_64 (pm m : List Int) {k : Nat} (hk : k ≤ 4000) (j : Nat) : ∀ x ∈ movedV pm m k j, I64 x := fun x hx => by
  unfold movedV at hx
  rcases List.mem_append.1 hx with h | h
  · have := (atoms_mem _ _).1 (List.mem_filter.1 h).1
    unfold I64; omega
  · obtain ⟨_, _, rfl⟩ := List.mem_map.1 h
    unfold I64; omega
end Go.Proofs.YtdmcclfagjgcgaaGreat
/- Contract: the closure of gprog.Rename that moves literals. -/
namespace Go.Proofs.YtdmcclfagjgcgaaGreat
open Go.RowKit Go.Shelf

set_option maxRecDepth 100000 in
set_option maxHeartbeats 2000000 in
theorem ren1_any (a : Nat) (qA : Option Addr) (ql qc : Nat) (pm : List Int) (n : Int) (lA : Option Addr) (ll lc : Nat) (xs : List Int) (w : World) (hbox : w.cell? ⟨a, 0, none⟩ = some (.slice qA ql qc)) (hq : SlIs intR w qA ql qc pm) (hp : PermOf pm n) (hn : n ≤ 4000) (hl : SlIs intR w lA ll lc xs) (hx : ∀ x ∈ xs, litB x n = true) :
    Calls Tryz.prog 59 #[.slice lA ll lc, .pointer (some ⟨a, 0, none⟩)] w fun e w' => ∃ A l' c, e = .returned (.slice A l' c) ∧ SlIs intR w' A l' c (xs.map (mvI pm)) ∧ l' = ll ∧ Frs w.heap.size A l' ∧ Below w.heap.size w w' := by
  have hlc := hl.cap
  have hlm := hl.max
  have hqc := hq.cap
  have hqm := hq.max
  have hln := hl.small
  have hlen := hl.len
  have hpl := hp.len
  have hql := hq.len
  have HBOX := Lib.hid hbox; clear hbox
  have HQ := Lib.hid hq; clear hq
  have HP := Lib.hid hp; clear hp
  have HL := Lib.hid hl; clear hl
  have HX := Lib.hid hx; clear hx
  have HLEN := Lib.hid hlen; clear hlen
  have HPL := Lib.hid hpl; clear hpl
  have HQL := Lib.hid hql; clear hql
  go_enter Tryz.func59, Tryz.ntmps59
  go_wp2_with fail
  go_loopw [4, 9] (fun v t wr => ∃ (k : Nat), k ≤ ll ∧ t = .int .i64 (k : Int) ∧ OwnI wr w.heap.size v k ((xs.take k).map (mvI pm)) ∧ Below w.heap.size w wr) (fun _ t _ => ll - (intOf t).toNat)
  case atStart => exact ⟨0, Nat.zero_le _, rfl, OwnI.nil _ _, Below.refl _ _⟩
  case round =>
    obtain ⟨k, hk, rfl, ho, hb⟩ := hrel
    have hsz := hb.size
    by_cases hlt : k < ll
    · obtain ⟨x, hxk, -⟩ := HL.out.drop hlt
      obtain ⟨xb, xo, rfl, lx, cx, x64⟩ := (HL.out.ext hb).int hxk
      have hlit := HX.out x (List.mem_of_getElem? hxk)
      have cb : wr.cell? ⟨a, 0, none⟩ = some (.slice qA ql qc) := (hb.cell (World.block_lt_of_cell? _ _ HBOX.out)).trans HBOX.out
      have hst : (xs.take (k + 1)).map (mvI pm) = (xs.take k).map (mvI pm) ++ [mvI pm x] := by rw [take_snoc' hxk, List.map_append]; rfl
      have k0 : (0 : Int) ≤ (k : Int) := by omega
      have k1 : (k : Int) < (ll : Int) := by omega
      rcases lit_cases hlit with ⟨h0, h1⟩ | ⟨y, hxy, h0, h1⟩
      · obtain ⟨z, hz, hmz, -, z0, z1⟩ := HP.out.get h0 h1
        obtain ⟨j, hj⟩ : ∃ j : Nat, j = x.toNat - 1 := ⟨_, rfl⟩
        rw [← hj] at hz
        obtain ⟨pb, po, rfl, _, cz, z64⟩ := (HQ.out.ext hb).int hz
        have e1 : IntKind.i64.wrap (x - 1) = (j : Int) := by rw [IntWalk.i64_in _ (by omega)]; omega
        have j0 : (0 : Int) ≤ (j : Int) := by omega
        have j1 : (j : Int) < (ql : Int) := by have := HPL.out; have := HQL.out; omega
        have x0 : 0 < x := by omega
        obtain ⟨v', w3, hrun, hown3, hg3, hat3⟩ := app1 ho z (by omega) hsz 23
        have hb3 := bel_grown hb hg3 hsz (fun q hq => (ho.2.lt q hq).1)
        rw [← hmz, ← hst] at hown3
        clear hlit hst hmz h0 h1
        have HXK := Lib.hid hxk; clear hxk
        have HO := Lib.hid ho; clear ho
        have HB := Lib.hid hb; clear hb
        have HRUN := Lib.hid hrun; clear hrun
        have HOWN3 := Lib.hid hown3; clear hown3
        have HG3 := Lib.hid hg3; clear hg3
        have HAT3 := Lib.hid hat3; clear hat3
        have HB3 := Lib.hid hb3; clear hb3
        have HJ := Lib.hid hj; clear hj
        have HZ := Lib.hid hz; clear hz
        have X64 := Lib.hid x64; clear x64
        have Z64 := Lib.hid z64; clear z64
        go_wp2_with (at_builtin; refine wpList_append_run rfl _ _ _ rfl _ _ rfl rfl _ _ HRUN.out ?_)
        go_roundw
        case rel => exact ⟨k + 1, by omega, by go_num, HOWN3.out, HB3.out⟩
        case measure => simp [intOf]; omega
      · obtain ⟨z, hz, hmz, hmz2, z0, z1⟩ := HP.out.get h0 h1
        obtain ⟨j, hj⟩ : ∃ j : Nat, j = y.toNat - 1 := ⟨_, rfl⟩
        rw [← hj] at hz
        obtain ⟨pb, po, rfl, _, cz, z64⟩ := (HQ.out.ext hb).int hz
        have e0 : IntKind.i64.wrap (-x) = y := by rw [IntWalk.i64_in _ (by omega)]; omega
        have e1 : IntKind.i64.wrap (y - 1) = (j : Int) := by rw [IntWalk.i64_in _ (by omega)]; omega
        have e2 : IntKind.i64.wrap (-z) = -z := by rw [IntWalk.i64_in _ (by omega)]
        have j0 : (0 : Int) ≤ (j : Int) := by omega
        have j1 : (j : Int) < (ql : Int) := by have := HPL.out; have := HQL.out; omega
        have x0 : ¬ 0 < x := by omega
        obtain ⟨v', w3, hrun, hown3, hg3, hat3⟩ := app1 ho (-z) (by omega) hsz 23
        have hb3 := bel_grown hb hg3 hsz (fun q hq => (ho.2.lt q hq).1)
        rw [hxy, hmz2] at hst
        rw [← hst] at hown3
        clear hlit hst hmz hmz2 h0 h1
        have HXK := Lib.hid hxk; clear hxk
        have HO := Lib.hid ho; clear ho
        have HB := Lib.hid hb; clear hb
        have HRUN := Lib.hid hrun; clear hrun
        have HOWN3 := Lib.hid hown3; clear hown3
        have HG3 := Lib.hid hg3; clear hg3
        have HAT3 := Lib.hid hat3; clear hat3
        have HB3 := Lib.hid hb3; clear hb3
        have HJ := Lib.hid hj; clear hj
        have HZ := Lib.hid hz; clear hz
        have X64 := Lib.hid x64; clear x64
        have Z64 := Lib.hid z64; clear z64
        have HXY := Lib.hid hxy; clear hxy
        go_wp2_with (at_builtin; refine wpList_append_run rfl _ _ _ rfl _ _ rfl rfl _ _ HRUN.out ?_)
        go_roundw
        case rel => exact ⟨k + 1, by omega, by go_num, HOWN3.out, HB3.out⟩
        case measure => simp [intOf]; omega
    · have hkl : k = ll := by omega
      have k1 : ¬ (k : Int) < (ll : Int) := by omega
      have htk : xs.take k = xs := List.take_of_length_le (by have := HLEN.out; omega)
      rw [htk] at ho
      obtain ⟨vA, vc, rfl, hsv⟩ := ho.sl (by omega) (fun z hz => by
        obtain ⟨x, hx, rfl⟩ := List.mem_map.1 hz
        have := litB_iff.1 (mv_lit HP.out (HX.out x hx))
        unfold I64; omega)
      have hfr := ho.fresh
      clear htk
      have HO := Lib.hid ho; clear ho
      have HB := Lib.hid hb; clear hb
      have HSV := Lib.hid hsv; clear hsv
      have HFR := Lib.hid hfr; clear hfr
      have HKL := Lib.hid hkl; clear hkl
      go_wp2_with fail
      go_ret
      exact ⟨_, _, _, rfl, HSV.out, HKL.out, HFR.out, HB.out⟩
end Go.Proofs.YtdmcclfagjgcgaaGreat

/- The mirror of reduct.Rounds (plain): needs, uses, reach; that it ends in roundsL. -/
import Derived.Test.YtcbkkjcleiibfaaSem
namespace Go.Proofs.Ytcbkkjcleiibfaa

/-- The body's literals with their weights. -/
def bp (r : GRule) : List (Int × Int) := if r.sum then r.body.zip r.w else r.body.map fun x => (x, 1)
def boundOf (r : GRule) : Int := if r.sum then r.bound else (r.body.length : Int)
def sumP (m : List Int) : List (Int × Int) → Int
  | [] => 0
  | p :: r => (if p.1 ∈ m then p.2 else 0) + sumP m r
def sumE (a : Int) : List (Int × Int) → Int
  | [] => 0
  | p :: r => (if p.1 = a then p.2 else 0) + sumE a r
def needF (r : GRule) (m : List Int) : Int := boundOf r - sumP m (bp r)
theorem sumP_nil (l : List (Int × Int)) : sumP [] l = 0 := by
  induction l with
  | nil => rfl
  | cons p r ih => simp [sumP, ih]
theorem sumP_cons (a : Int) (m : List Int) (ha : a ∉ m) (l : List (Int × Int)) : sumP (a :: m) l = sumE a l + sumP m l := by
  induction l with
  | nil => rfl
  | cons p r ih =>
    simp only [sumP, sumE, ih, List.mem_cons]
    by_cases h1 : p.1 = a
    · have : p.1 ∉ m := by rw [h1]; exact ha
      simp [h1, ha]; omega
    · by_cases h2 : p.1 ∈ m <;> simp [h1, h2] <;> omega
theorem sumP_app (m last : List Int) (hd : ∀ x ∈ last, x ∉ m) (l : List (Int × Int)) : sumP (m ++ last) l = sumP m l + sumP last l := by
  induction l with
  | nil => rfl
  | cons p r ih =>
    simp only [sumP, ih, List.mem_append]
    by_cases h1 : p.1 ∈ m
    · have : p.1 ∉ last := fun h => hd _ h h1
      simp [h1, this]; omega
    · by_cases h2 : p.1 ∈ last <;> simp [h1, h2] <;> omega
theorem sumP_congr {m m' : List Int} (h : ∀ x, x ∈ m ↔ x ∈ m') (l : List (Int × Int)) : sumP m l = sumP m' l := by
  induction l with
  | nil => rfl
  | cons p r ih => simp only [sumP, ih, h p.1]
theorem sumT_zip (m : List Int) : ∀ (xs ys : List Int), (∀ x ∈ xs, 0 < x) → sumT xs ys m = sumP m (xs.zip ys)
  | [], ys, _ => by cases ys <;> rfl
  | x :: xs, [], _ => rfl
  | x :: xs, y :: ys, h => by
    have hx := h x (by simp)
    have ih := sumT_zip m xs ys fun z hz => h z (by simp [hz])
    simp only [sumT, List.zip_cons_cons, sumP, ih, trueB, hx, if_true]
    by_cases hm : x ∈ m <;> simp [hm]
theorem sumP_one (m : List Int) : ∀ (xs : List Int), sumP m (xs.map fun x => (x, 1)) ≤ (xs.length : Int) ∧ ((xs.length : Int) ≤ sumP m (xs.map fun x => (x, 1)) ↔ ∀ x ∈ xs, x ∈ m)
  | [] => by simp [sumP]
  | x :: xs => by
    obtain ⟨h1, h2⟩ := sumP_one m xs
    simp only [List.map_cons, sumP, List.length_cons, List.forall_mem_cons, ← h2]
    by_cases hm : x ∈ m <;> simp [hm] <;> omega
theorem body_need (r : GRule) (m : List Int) (h : ∀ x ∈ r.body, 0 < x) : bodyB r m = true ↔ needF r m ≤ 0 := by
  unfold bodyB needF boundOf bp
  by_cases hs : r.sum = true
  · simp only [hs, if_true, decide_eq_true_eq, sumT_zip m _ _ h]; omega
  · have hf : r.sum = false := by simpa using hs
    simp only [hf, Bool.false_eq_true, if_false]
    rw [List.all_eq_true]
    have h2 := (sumP_one m r.body).2
    constructor
    · intro ha
      have := h2.2 fun x hx => by have := ha x hx; simpa [trueB, h x hx] using this
      omega
    · intro ha x hx
      have := h2.1 (by omega) x hx
      simpa [trueB, h x hx] using this

/- Uses: per atom the rules in whose body it is, with the weight. -/
def usesI (i : Nat) (a : Int) (l : List (Int × Int)) : List (Int × Int) := (l.filter fun p => decide (p.1 = a)).map fun p => ((i : Int), p.2)
def usesGo (a : Int) : Nat → List GRule → List (Int × Int)
  | _, [] => []
  | i, r :: rs => usesI i a (bp r) ++ usesGo a (i + 1) rs
def upd (f : Nat → Int) (i : Nat) (v : Int) : Nat → Int := fun j => if j = i then v else f j
def subU : (Nat → Int) → List (Int × Int) → (Nat → Int)
  | f, [] => f
  | f, p :: r => subU (upd f p.1.toNat (f p.1.toNat - p.2)) r
def subA (rs : List GRule) : (Nat → Int) → List Int → (Nat → Int)
  | f, [] => f
  | f, a :: r => subA rs (subU f (usesGo a 0 rs)) r
theorem subU_app (f : Nat → Int) (xs ys : List (Int × Int)) : subU f (xs ++ ys) = subU (subU f xs) ys := by
  induction xs generalizing f with
  | nil => rfl
  | cons p r ih => simp only [List.cons_append, subU, ih]
theorem subU_usesI (i : Nat) (a : Int) (l : List (Int × Int)) (f : Nat → Int) (j : Nat) : subU f (usesI i a l) j = if j = i then f j - sumE a l else f j := by
  induction l generalizing f with
  | nil => simp [usesI, subU, sumE]
  | cons p r ih =>
    by_cases h : p.1 = a
    · have e : usesI i a (p :: r) = ((i : Int), p.2) :: usesI i a r := by simp [usesI, h]
      rw [e, subU, ih]
      by_cases hj : j = i <;> simp [hj, upd, sumE, h]
      omega
    · have e : usesI i a (p :: r) = usesI i a r := by simp [usesI, h]
      rw [e, ih]; simp [sumE, h]
theorem subU_usesGo (a : Int) : ∀ (rs : List GRule) (i : Nat) (f : Nat → Int) (j : Nat), subU f (usesGo a i rs) j = match (if i ≤ j then rs[j - i]? else none) with | some r => f j - sumE a (bp r) | none => f j
  | [], i, f, j => by simp [usesGo, subU]
  | r :: rs, i, f, j => by
    rw [usesGo, subU_app, subU_usesGo a rs (i + 1)]
    by_cases h1 : i + 1 ≤ j
    · have e : j - i = (j - (i + 1)) + 1 := by omega
      rw [if_pos h1, if_pos (by omega : i ≤ j), e, List.getElem?_cons_succ]
      have hne : j ≠ i := by omega
      rw [subU_usesI, if_neg hne]
    · rw [if_neg h1]
      by_cases h2 : j = i
      · subst h2; simp [subU_usesI]
      · rw [if_neg (by omega : ¬ i ≤ j)]; simp [subU_usesI, h2]
theorem subA_eq (rs : List GRule) : ∀ (last : List Int) (f : Nat → Int), last.Nodup → ∀ j r, rs[j]? = some r → subA rs f last j = f j - sumP last (bp r)
  | [], f, _, j, r, h => by simp [subA, sumP_nil]
  | a :: l, f, hn, j, r, h => by
    rw [List.nodup_cons] at hn
    rw [subA, subA_eq rs l _ hn.2 j r h, subU_usesGo, sumP_cons a l hn.1]
    have e : (if 0 ≤ j then rs[j - 0]? else none) = some r := by simpa using h
    rw [e]
    show f j - sumE a (bp r) - sumP l (bp r) = f j - (sumE a (bp r) + sumP l (bp r))
    omega
theorem usesGo_mem (a : Int) : ∀ (rs : List GRule) (i : Nat) (p : Int × Int), p ∈ usesGo a i rs ↔ ∃ k r, rs[k]? = some r ∧ p.1 = ((i + k : Nat) : Int) ∧ (a, p.2) ∈ bp r
  | [], i, p => by simp [usesGo]
  | r :: rs, i, p => by
    rw [usesGo, List.mem_append, usesGo_mem a rs (i + 1) p]
    constructor
    · rintro (h | ⟨k, r', h1, h2, h3⟩)
      · simp only [usesI, List.mem_map, List.mem_filter, decide_eq_true_eq] at h
        obtain ⟨q, ⟨hq, rfl⟩, rfl⟩ := h
        exact ⟨0, r, rfl, rfl, hq⟩
      · exact ⟨k + 1, r', by simpa using h1, by rw [h2]; congr 1; omega, h3⟩
    · rintro ⟨k, r', h1, h2, h3⟩
      match k, h1 with
      | 0, h1 =>
        simp at h1; subst h1
        exact .inl (by simp only [usesI, List.mem_map, List.mem_filter, decide_eq_true_eq]; exact ⟨(a, p.2), ⟨h3, rfl⟩, by rw [show p = (p.1, p.2) from rfl, h2]; rfl⟩)
      | k + 1, h1 => exact .inr ⟨k, r', by simpa using h1, by rw [h2]; congr 1; omega, h3⟩

/- Reach. -/
def reachS (rs : List GRule) (f : Nat → Int) (k : Int) (s : (Nat → Int) × List Int) (i : Nat) : (Nat → Int) × List Int :=
  match rs[i]?.bind fun r => r.head.head? with
  | some a => if f i ≤ 0 ∧ s.1 (a - 1).toNat = 0 then (upd s.1 (a - 1).toNat k, s.2 ++ [a]) else s
  | none => s
def reachL (rs : List GRule) (f : Nat → Int) (k : Int) (s : (Nat → Int) × List Int) (is : List Nat) : (Nat → Int) × List Int := is.foldl (reachS rs f k) s
def Fires (rs : List GRule) (f : Nat → Int) (i j : Nat) : Prop := ∃ r, rs[i]? = some r ∧ r.head.head? = some ((j : Int) + 1) ∧ f i ≤ 0
structure Reached (rs : List GRule) (f : Nat → Int) (k : Int) (o : Nat → Int) (done : List Nat) (s : (Nat → Int) × List Int) : Prop where
  hit : ∀ j, (o j = 0 ∧ ∃ i ∈ done, Fires rs f i j) → s.1 j = k
  miss : ∀ j, ¬ (o j = 0 ∧ ∃ i ∈ done, Fires rs f i j) → s.1 j = o j
  now : ∀ x, x ∈ s.2 ↔ ∃ j : Nat, x = (j : Int) + 1 ∧ o j = 0 ∧ ∃ i ∈ done, Fires rs f i j
  nd : s.2.Nodup
theorem Reached.nil (rs : List GRule) (f : Nat → Int) (k : Int) (o : Nat → Int) : Reached rs f k o [] (o, []) :=
  ⟨by simp, by simp, by simp, by simp⟩
theorem Reached.step {rs : List GRule} {f : Nat → Int} {k : Int} {o : Nat → Int} {done : List Nat} {s : (Nat → Int) × List Int} (h : Reached rs f k o done s) (hk : k ≠ 0) (hh : ∀ r ∈ rs, ∀ a ∈ r.head, 1 ≤ a) (i : Nat) :
    Reached rs f k o (done ++ [i]) (reachS rs f k s i) := by
  have key : ∀ j, (o j = 0 ∧ ∃ i' ∈ done ++ [i], Fires rs f i' j) ↔ (o j = 0 ∧ ∃ i' ∈ done, Fires rs f i' j) ∨ (o j = 0 ∧ Fires rs f i j) := by
    intro j
    constructor
    · rintro ⟨h0, i', hi, hf⟩
      rcases List.mem_append.1 hi with hi | hi
      · exact .inl ⟨h0, i', hi, hf⟩
      · simp at hi; subst hi; exact .inr ⟨h0, hf⟩
    · rintro (⟨h0, i', hi, hf⟩ | ⟨h0, hf⟩)
      · exact ⟨h0, i', by simp [hi], hf⟩
      · exact ⟨h0, i, by simp, hf⟩
  have same : (∀ j, o j = 0 ∧ Fires rs f i j → o j = 0 ∧ ∃ i' ∈ done, Fires rs f i' j) → Reached rs f k o (done ++ [i]) s := fun hs =>
    ⟨fun j hj => h.hit j (((key j).1 hj).elim id (hs j)), fun j hj => h.miss j fun hx => hj ((key j).2 (.inl hx)), fun x => (h.now x).trans
      ⟨fun ⟨j, e, hx⟩ => ⟨j, e, (key j).2 (.inl hx)⟩, fun ⟨j, e, hx⟩ => ⟨j, e, ((key j).1 hx).elim id (hs j)⟩⟩, h.nd⟩
  unfold reachS
  cases hb : rs[i]?.bind fun r => r.head.head? with
  | none => exact same fun j ⟨_, r, h1, h2, _⟩ => by rw [h1] at hb; simp [h2] at hb
  | some a =>
    obtain ⟨r, h1, h2⟩ := Option.bind_eq_some_iff.1 hb
    have ha : 1 ≤ a := hh r (List.mem_of_getElem? h1) a (List.mem_of_head? h2)
    have hfr : ∀ j, Fires rs f i j ↔ (j = (a - 1).toNat ∧ f i ≤ 0) := fun j => by
      constructor
      · rintro ⟨r', h1', h2', h3'⟩
        rw [h1] at h1'; cases h1'
        rw [h2] at h2'; injection h2' with h2'
        exact ⟨by omega, h3'⟩
      · rintro ⟨rfl, h3⟩
        exact ⟨r, h1, by rw [h2]; congr 1; omega, h3⟩
    simp only
    split
    · rename_i hc
      obtain ⟨hc1, hc2⟩ := hc
      have hj0 : ¬ (o (a - 1).toNat = 0 ∧ ∃ i' ∈ done, Fires rs f i' (a - 1).toNat) := fun hx => by have := h.hit _ hx; omega
      have ho : o (a - 1).toNat = 0 := by rw [← h.miss _ hj0]; exact hc2
      refine ⟨fun j hj => ?_, fun j hj => ?_, fun x => ?_, ?_⟩
      · by_cases e : j = (a - 1).toNat
        · simp [upd, e]
        · simp only [upd, e, if_false]
          exact h.hit j (((key j).1 hj).elim id fun hx => absurd ((hfr j).1 hx.2).1 e)
      · by_cases e : j = (a - 1).toNat
        · exact absurd ((key j).2 (.inr ⟨by rw [e]; exact ho, (hfr j).2 ⟨e, hc1⟩⟩)) hj
        · simp only [upd, e, if_false]
          exact h.miss j fun hx => hj ((key j).2 (.inl hx))
      · rw [show ∀ l : List Int, x ∈ l ++ [a] ↔ x ∈ l ∨ x = a from fun l => by simp, h.now x]
        constructor
        · rintro (⟨j, e, hx⟩ | rfl)
          · exact ⟨j, e, (key j).2 (.inl hx)⟩
          · exact ⟨(x - 1).toNat, by omega, (key _).2 (.inr ⟨ho, (hfr _).2 ⟨rfl, hc1⟩⟩)⟩
        · rintro ⟨j, e, hx⟩
          rcases (key j).1 hx with hx | hx
          · exact .inl ⟨j, e, hx⟩
          · have := ((hfr j).1 hx.2).1
            exact .inr (by omega)
      · rw [List.nodup_append]
        refine ⟨h.nd, by simp, fun x hx y hy e => ?_⟩
        simp at hy
        obtain ⟨j, e2, hx⟩ := (h.now x).1 hx
        have : j = (a - 1).toNat := by omega
        rw [this] at hx
        exact hj0 hx
    · rename_i hc
      refine same fun j ⟨h0, hf⟩ => ?_
      obtain ⟨e, h3⟩ := (hfr j).1 hf
      refine Classical.byContradiction fun hx => hc ⟨h3, ?_⟩
      rw [← e, h.miss j hx]; exact h0
theorem Reached.list {rs : List GRule} {f : Nat → Int} {k : Int} {o : Nat → Int} (hk : k ≠ 0) (hh : ∀ r ∈ rs, ∀ a ∈ r.head, 1 ≤ a) : ∀ (is done : List Nat) (s : (Nat → Int) × List Int), Reached rs f k o done s → Reached rs f k o (done ++ is) (reachL rs f k s is)
  | [], done, s, h => by simpa [reachL] using h
  | i :: r, done, s, h => by
    have := Reached.list hk hh r (done ++ [i]) _ (h.step hk hh i)
    simpa [reachL, List.append_assoc] using this

/- The rounds of the mirror are the stages. -/
theorem stage_in (rs : List GRule) (n : Nat) : ∀ k x, x ∈ (stageF rs n k).2 ↔ ∃ j : Nat, j < n ∧ x = (j : Int) + 1 ∧ (stageF rs n k).1 j ≠ 0
  | 0, x => by simp [stageF]
  | k + 1, x => by
    simp only [stageF, List.mem_append, stage_in rs n k x, List.mem_map, List.mem_filter, List.mem_range, Bool.and_eq_true, decide_eq_true_eq]
    constructor
    · rintro (⟨j, h1, h2, h3⟩ | ⟨j, ⟨h1, h2, h3⟩, rfl⟩)
      · exact ⟨j, h1, h2, by simp [h3]⟩
      · exact ⟨j, h1, rfl, by rw [if_pos ⟨h2, h3⟩]; omega⟩
    · rintro ⟨j, h1, h2, h3⟩
      by_cases hz : (stageF rs n k).1 j = 0
      · by_cases hd : derivB rs (stageF rs n k).2 ((j : Int) + 1) = true
        · exact .inr ⟨j, ⟨h1, hz, hd⟩, h2.symm⟩
        · simp [hd, hz] at h3
      · exact .inl ⟨j, h1, h2, hz⟩
/-- The rules are definite: what the mirror needs. -/
structure DefOk (rs : List GRule) (n : Nat) : Prop where
  head : ∀ r ∈ rs, ∀ a ∈ r.head, 1 ≤ a ∧ a ≤ (n : Int)
  body : ∀ r ∈ rs, ∀ x ∈ r.body, 0 < x
structure RInv (rs : List GRule) (n k : Nat) (f o : Nat → Int) (nw : List Int) : Prop where
  need : ∀ i r, rs[i]? = some r → f i = needF r (stageF rs n k).2
  out : ∀ j, j < n → o j = (stageF rs n (k + 1)).1 j
  now : ∀ x, x ∈ nw ↔ ∃ j : Nat, j < n ∧ x = (j : Int) + 1 ∧ (stageF rs n (k + 1)).1 j = (k : Int) + 1
  nd : nw.Nodup
theorem fires_der {rs : List GRule} {n : Nat} (hd : DefOk rs n) {f : Nat → Int} {m : List Int} (hf : ∀ i r, rs[i]? = some r → f i = needF r m) (j : Nat) : (∃ i, Fires rs f i j) ↔ derivB rs m ((j : Int) + 1) = true := by
  unfold derivB derB
  rw [List.any_eq_true]
  constructor
  · rintro ⟨i, r, h1, h2, h3⟩
    refine ⟨r, List.mem_of_getElem? h1, ?_⟩
    rw [Bool.and_eq_true, decide_eq_true_eq]
    exact ⟨h2, (body_need r m (hd.body r (List.mem_of_getElem? h1))).2 (by rw [← hf i r h1]; exact h3)⟩
  · rintro ⟨r, hr, h⟩
    rw [Bool.and_eq_true, decide_eq_true_eq] at h
    obtain ⟨i, hi⟩ := List.mem_iff_getElem?.1 hr
    exact ⟨i, r, hi, h.1, by rw [hf i r hi]; exact (body_need r m (hd.body r hr)).1 h.2⟩
theorem RInv.init {rs : List GRule} {n : Nat} (hd : DefOk rs n) {f : Nat → Int} (hf : ∀ i r, rs[i]? = some r → f i = boundOf r) :
    RInv rs n 0 f (reachL rs f 1 (fun _ => 0, []) (List.range rs.length)).1 (reachL rs f 1 (fun _ => 0, []) (List.range rs.length)).2 := by
  have hn : ∀ i r, rs[i]? = some r → f i = needF r (stageF rs n 0).2 := fun i r h => by rw [hf i r h]; simp [needF, stageF, sumP_nil]
  have hR := Reached.list (rs := rs) (f := f) (k := 1) (o := fun _ => 0) (by decide) (fun r hr a ha => (hd.head r hr a ha).1) (List.range rs.length) [] _ (Reached.nil rs f 1 _)
  rw [List.nil_append] at hR
  have key : ∀ j, (∃ i ∈ List.range rs.length, Fires rs f i j) ↔ derivB rs [] ((j : Int) + 1) = true := fun j => by
    rw [← fires_der hd (m := []) hn j]
    exact ⟨fun ⟨i, _, h⟩ => ⟨i, h⟩, fun ⟨i, h⟩ => ⟨i, by obtain ⟨r, h1, _⟩ := h; exact List.mem_range.2 (List.getElem?_eq_some_iff.1 h1).1, h⟩⟩
  have fire_lt : ∀ j i, Fires rs f i j → j < n := fun j i ⟨r, h1, h2, _⟩ => by have := (hd.head r (List.mem_of_getElem? h1) _ (List.mem_of_head? h2)).2; omega
  refine ⟨hn, fun j hj => ?_, fun x => ?_, hR.nd⟩
  · by_cases h : derivB rs [] ((j : Int) + 1) = true
    · rw [hR.hit j ⟨rfl, (key j).2 h⟩]; simp [stageF, h]
    · rw [hR.miss j fun hx => h ((key j).1 hx.2)]; simp [stageF, h]
  · rw [hR.now x]
    constructor
    · rintro ⟨j, e, _, hx⟩
      have hx' := hx
      obtain ⟨i, _, hF⟩ := hx'
      exact ⟨j, fire_lt j i hF, e, by simp [stageF, (key j).1 hx]⟩
    · rintro ⟨j, hj, e, hs⟩
      refine ⟨j, e, rfl, (key j).2 ?_⟩
      by_cases h : derivB rs [] ((j : Int) + 1) = true
      · exact h
      · simp [stageF, h] at hs
theorem stage_split (rs : List GRule) (n k j : Nat) : ((stageF rs n (k + 1)).1 j = (k : Int) + 1 ↔ (stageF rs n k).1 j = 0 ∧ derivB rs (stageF rs n k).2 ((j : Int) + 1) = true) ∧
    ((stageF rs n (k + 1)).1 j ≠ 0 ↔ (stageF rs n k).1 j ≠ 0 ∨ (stageF rs n (k + 1)).1 j = (k : Int) + 1) := by
  have hb := stage_bd rs n k j
  have e : (stageF rs n (k + 1)).1 j = if (stageF rs n k).1 j = 0 ∧ derivB rs (stageF rs n k).2 ((j : Int) + 1) = true then (k : Int) + 1 else (stageF rs n k).1 j := rfl
  rw [e]
  by_cases h : (stageF rs n k).1 j = 0 ∧ derivB rs (stageF rs n k).2 ((j : Int) + 1) = true
  · rw [if_pos h]; exact ⟨⟨fun _ => h, fun _ => rfl⟩, ⟨fun _ => .inr rfl, fun _ => by omega⟩⟩
  · rw [if_neg h]; exact ⟨⟨fun h1 => by omega, fun h1 => absurd h1 h⟩, ⟨fun h1 => .inl h1, fun h1 => by omega⟩⟩
theorem sumP_zero (m : List Int) : ∀ (l : List (Int × Int)), (∀ p ∈ l, p.1 ∉ m) → sumP m l = 0
  | [], _ => rfl
  | p :: r, h => by
    rw [sumP, if_neg (h p (by simp)), sumP_zero m r fun q hq => h q (by simp [hq])]; rfl
def usedIs (rs : List GRule) (last : List Int) : List Nat := last.flatMap fun a => (usesGo a 0 rs).map fun p => p.1.toNat
theorem RInv.step {rs : List GRule} {n k : Nat} (hd : DefOk rs n) {f o : Nat → Int} {nw : List Int} (h : RInv rs n k f o nw) :
    RInv rs n (k + 1) (subA rs f nw) (reachL rs (subA rs f nw) ((k : Int) + 2) (o, []) (usedIs rs nw)).1 (reachL rs (subA rs f nw) ((k : Int) + 2) (o, []) (usedIs rs nw)).2 := by
  have hmem : ∀ x, x ∈ (stageF rs n (k + 1)).2 ↔ x ∈ (stageF rs n k).2 ++ nw := fun x => by
    rw [List.mem_append, stage_in, stage_in, h.now x]
    constructor
    · rintro ⟨j, h1, h2, h3⟩
      rcases (stage_split rs n k j).2.1 h3 with h4 | h4
      · exact .inl ⟨j, h1, h2, h4⟩
      · exact .inr ⟨j, h1, h2, h4⟩
    · rintro (⟨j, h1, h2, h3⟩ | ⟨j, h1, h2, h3⟩)
      · exact ⟨j, h1, h2, (stage_split rs n k j).2.2 (.inl h3)⟩
      · exact ⟨j, h1, h2, (stage_split rs n k j).2.2 (.inr h3)⟩
  have hdis : ∀ x ∈ nw, x ∉ (stageF rs n k).2 := fun x hx hs => by
    obtain ⟨j, h1, h2, h3⟩ := (h.now x).1 hx
    obtain ⟨i, h4, h5, h6⟩ := (stage_in rs n k x).1 hs
    have : i = j := by omega
    subst this
    exact h6 ((stage_split rs n k i).1.1 h3).1
  have hneed : ∀ i r, rs[i]? = some r → subA rs f nw i = needF r (stageF rs n (k + 1)).2 := fun i r hr => by
    rw [subA_eq rs nw f h.nd i r hr, h.need i r hr]
    unfold needF
    rw [sumP_congr hmem, sumP_app _ _ hdis]; omega
  have hR := Reached.list (rs := rs) (f := subA rs f nw) (k := (k : Int) + 2) (o := o) (by omega) (fun r hr a ha => (hd.head r hr a ha).1) (usedIs rs nw) [] _ (Reached.nil rs _ _ o)
  rw [List.nil_append] at hR
  have fire_lt : ∀ j i, Fires rs (subA rs f nw) i j → j < n := fun j i ⟨r, h1, h2, _⟩ => by have := (hd.head r (List.mem_of_getElem? h1) _ (List.mem_of_head? h2)).2; omega
  have key : ∀ j, j < n → o j = 0 → ((∃ i ∈ usedIs rs nw, Fires rs (subA rs f nw) i j) ↔ derivB rs (stageF rs n (k + 1)).2 ((j : Int) + 1) = true) := fun j hj hz => by
    rw [← fires_der hd hneed j]
    refine ⟨fun ⟨i, _, hF⟩ => ⟨i, hF⟩, fun ⟨i, hF⟩ => ?_⟩
    by_cases hu : i ∈ usedIs rs nw
    · exact ⟨i, hu, hF⟩
    · exfalso
      obtain ⟨r, h1, h2, h3⟩ := hF
      have hno : ∀ p ∈ bp r, p.1 ∉ nw := fun p hp hn => hu (by
        unfold usedIs
        rw [List.mem_flatMap]
        refine ⟨p.1, hn, ?_⟩
        rw [List.mem_map]
        exact ⟨((i : Int), p.2), (usesGo_mem p.1 rs 0 _).2 ⟨i, r, h1, by simp, hp⟩, by simp⟩)
      rw [subA_eq rs nw f h.nd i r h1, sumP_zero nw _ hno] at h3
      have hder := (fires_der hd (f := f) h.need j).1 ⟨i, r, h1, h2, by omega⟩
      have hz2 : (stageF rs n (k + 1)).1 j = 0 := by rw [← h.out j hj]; exact hz
      by_cases hs : (stageF rs n k).1 j = 0
      · have := (stage_split rs n k j).1.2 ⟨hs, hder⟩; omega
      · exact (stage_split rs n k j).2.2 (.inl hs) hz2
  have hk2 : ((k + 1 : Nat) : Int) + 1 = (k : Int) + 2 := by omega
  refine ⟨hneed, fun j hj => ?_, fun x => ?_, hR.nd⟩
  · have e : (stageF rs n (k + 1 + 1)).1 j = if (stageF rs n (k + 1)).1 j = 0 ∧ derivB rs (stageF rs n (k + 1)).2 ((j : Int) + 1) = true then ((k + 1 : Nat) : Int) + 1 else (stageF rs n (k + 1)).1 j := rfl
    rw [e, ← h.out j hj, hk2]
    by_cases hc : o j = 0 ∧ derivB rs (stageF rs n (k + 1)).2 ((j : Int) + 1) = true
    · rw [if_pos hc]; exact hR.hit j ⟨hc.1, (key j hj hc.1).2 hc.2⟩
    · rw [if_neg hc]; exact hR.miss j fun hx => hc ⟨hx.1, (key j hj hx.1).1 hx.2⟩
  · rw [hR.now x]
    constructor
    · rintro ⟨j, e, hz, hx⟩
      have hx' := hx
      obtain ⟨i, _, hF⟩ := hx'
      have hj := fire_lt j i hF
      exact ⟨j, hj, e, (stage_split rs n (k + 1) j).1.2 ⟨by rw [← h.out j hj]; exact hz, (key j hj hz).1 hx⟩⟩
    · rintro ⟨j, hj, e, hs⟩
      obtain ⟨h1, h2⟩ := (stage_split rs n (k + 1) j).1.1 hs
      have hz : o j = 0 := by rw [h.out j hj]; exact h1
      exact ⟨j, e, hz, (key j hj hz).2 h2⟩
/-- A stage that brings nothing new is the last. -/
theorem stage_stop (rs : List GRule) (n k : Nat) (h : ∀ j, j < n → (stageF rs n (k + 1)).1 j ≠ (k : Int) + 1) : ∀ m, k ≤ m → (∀ j, j < n → (stageF rs n m).1 j = (stageF rs n k).1 j) := by
  intro m hm
  obtain ⟨d, rfl⟩ : ∃ d, m = k + d := ⟨m - k, by omega⟩
  clear hm
  induction d with
  | zero => intro j _; rfl
  | succ d ih =>
    intro j hj
    have hmem : ∀ x, x ∈ (stageF rs n (k + d)).2 ↔ x ∈ (stageF rs n k).2 := fun x => by
      rw [stage_in, stage_in]
      exact ⟨fun ⟨i, h1, h2, h3⟩ => ⟨i, h1, h2, by rw [← ih i h1]; exact h3⟩, fun ⟨i, h1, h2, h3⟩ => ⟨i, h1, h2, by rw [ih i h1]; exact h3⟩⟩
    have hder : derivB rs (stageF rs n (k + d)).2 ((j : Int) + 1) = derivB rs (stageF rs n k).2 ((j : Int) + 1) := by
      have hT : ∀ x, trueB x (stageF rs n (k + d)).2 = trueB x (stageF rs n k).2 := fun x => by
        unfold trueB; simp only [hmem]
      have hS : ∀ xs ys, sumT xs ys (stageF rs n (k + d)).2 = sumT xs ys (stageF rs n k).2 := fun xs => by
        induction xs with
        | nil => intro ys; cases ys <;> rfl
        | cons x xs ihx =>
          intro ys
          cases ys with
          | nil => rfl
          | cons y ys => simp only [sumT, hT, ihx]
      unfold derivB derB bodyB
      simp only [hT, hS]
    have hno : ¬ ((stageF rs n k).1 j = 0 ∧ derivB rs (stageF rs n k).2 ((j : Int) + 1) = true) := fun hx => h j hj ((stage_split rs n k j).1.2 hx)
    have e : (stageF rs n (k + (d + 1))).1 j = if (stageF rs n (k + d)).1 j = 0 ∧ derivB rs (stageF rs n (k + d)).2 ((j : Int) + 1) = true then ((k + d : Nat) : Int) + 1 else (stageF rs n (k + d)).1 j := rfl
    rw [e, hder, ih j hj, if_neg hno]
/-- The atoms that have a round by stage k. -/
def cntF (rs : List GRule) (n k : Nat) : Nat := ((List.range n).filter fun j => decide ((stageF rs n k).1 j ≠ 0)).length
theorem filter_grow {p q : Nat → Bool} : ∀ (l : List Nat), (∀ x ∈ l, p x = true → q x = true) → (∃ x ∈ l, p x = false ∧ q x = true) → (l.filter p).length < (l.filter q).length
  | [], _, ⟨x, hx, _⟩ => by simp at hx
  | y :: r, h1, ⟨x, hx, h2, h3⟩ => by
    have hle : (r.filter p).length ≤ (r.filter q).length := by
      rw [← List.countP_eq_length_filter, ← List.countP_eq_length_filter]
      exact List.countP_mono_left fun z hz => h1 z (by simp [hz])
    by_cases hy : p y = true
    · rcases List.mem_cons.1 hx with rfl | hx
      · rw [hy] at h2; cases h2
      · have ih := filter_grow r (fun z hz => h1 z (by simp [hz])) ⟨x, hx, h2, h3⟩
        rw [List.filter_cons_of_pos hy, List.filter_cons_of_pos (h1 y (by simp) hy)]; simpa using ih
    · by_cases hq : q y = true
      · rw [List.filter_cons_of_neg hy, List.filter_cons_of_pos hq, List.length_cons]; omega
      · rcases List.mem_cons.1 hx with rfl | hx
        · exact absurd h3 hq
        · rw [List.filter_cons_of_neg hy, List.filter_cons_of_neg hq]
          exact filter_grow r (fun z hz => h1 z (by simp [hz])) ⟨x, hx, h2, h3⟩
theorem cnt_le (rs : List GRule) (n k : Nat) : cntF rs n k ≤ n := by
  have := List.length_filter_le (fun j => decide ((stageF rs n k).1 j ≠ 0)) (List.range n)
  simpa [cntF] using this
/-- A new atom at stage k + 1 means k + 1 atoms at least. -/
theorem cnt_new (rs : List GRule) (n : Nat) : ∀ k, (∃ j, j < n ∧ (stageF rs n (k + 1)).1 j = (k : Int) + 1) → k + 1 ≤ cntF rs n (k + 1)
  | k, ⟨j, hj, hs⟩ => by
    have hg : cntF rs n k < cntF rs n (k + 1) := filter_grow _ (fun x _ hx => by
        rw [decide_eq_true_eq] at hx ⊢; exact (stage_split rs n k x).2.2 (.inl hx)) ⟨j, List.mem_range.2 hj, by simp [((stage_split rs n k j).1.1 hs).1], by rw [decide_eq_true_eq]; omega⟩
    match k with
    | 0 => omega
    | k + 1 =>
      have : ∃ i, i < n ∧ (stageF rs n (k + 1)).1 i = (k : Int) + 1 := Classical.byContradiction fun hn => by
        have hst := stage_stop rs n k (fun i hi he => hn ⟨i, hi, he⟩)
        have h1 := hst (k + 1) (by omega) j hj
        have h2 := hst (k + 1 + 1) (by omega) j hj
        have h3 := ((stage_split rs n (k + 1) j).1.1 hs).1
        omega
      have := cnt_new rs n k this
      omega
/-- While there is something new the round is no later than n. -/
theorem RInv.more {rs : List GRule} {n k : Nat} {f o : Nat → Int} {nw : List Int} (h : RInv rs n k f o nw) (hn : nw ≠ []) : k + 1 ≤ n := by
  obtain ⟨x, hx⟩ := List.exists_mem_of_ne_nil nw hn
  obtain ⟨j, h1, _, h3⟩ := (h.now x).1 hx
  exact Nat.le_trans (cnt_new rs n k ⟨j, h1, h3⟩) (cnt_le rs n (k + 1))
/-- With nothing new the rounds are done. -/
theorem RInv.done {rs : List GRule} {n k : Nat} {f o : Nat → Int} (h : RInv rs n k f o []) : (List.range n).map o = roundsL rs n := by
  have hno : ∀ j, j < n → (stageF rs n (k + 1)).1 j ≠ (k : Int) + 1 := fun j hj hs => by
    have := (h.now _).2 ⟨j, hj, rfl, hs⟩; simp at this
  have hst := stage_stop rs n k hno
  unfold roundsL
  refine List.map_congr_left fun j hj => ?_
  rw [List.mem_range] at hj
  rw [h.out j hj, hst (k + 1) (by omega) j hj]
  by_cases hk : k ≤ n
  · exact (hst n hk j hj).symm
  · -- stage n is the last already
    have hn : ∀ i, i < n → (stageF rs n (n + 1)).1 i ≠ (n : Int) + 1 := fun i hi hs => by
      have h1 := cnt_new rs n n ⟨i, hi, hs⟩
      have h2 := cnt_le rs n (n + 1)
      omega
    exact stage_stop rs n n hn k (by omega) j hj
end Go.Proofs.Ytcbkkjcleiibfaa

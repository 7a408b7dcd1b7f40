/- The law StableSplit, plain half: the union of two programs without common atoms. -/
import Derived.Test.YtdkjanbfheehoaaGreatGN
import Derived.Test.YtdkjanbfheehoaaGreatGL
namespace Go.Proofs.YtdkjanbfheehoaaGreat
open Go.RowKit

/-- A literal of the second program in the union. -/
def shF (n : Int) (x : Int) : Int := if 0 < x then x + n else x - n
theorem sh_lmap {n k : Int} (h : 0 ≤ n) : LMap (shF n) k := fun a h0 _ => by
  unfold shF
  rw [if_pos (by omega), if_neg (by omega)]
  omega
theorem sh_pos {n a : Int} (h : 1 ≤ a) : shF n a = a + n := by unfold shF; rw [if_pos (by omega)]
theorem sh_neg {n a : Int} (h : a ≤ 0) : shF n a = a - n := by unfold shF; rw [if_neg (by omega)]
def lvlL (p q : GProg) : List Int := p.min.flatMap (·.lits) ++ q.min.flatMap (fun m => m.lits.map (shF p.n))
def lvlW (p q : GProg) : List Int := p.min.flatMap (·.w) ++ q.min.flatMap (·.w)
def bothP (p q : GProg) : GProg := ⟨p.n + q.n, List.replicate p.n.toNat ByteArray.empty ++ List.replicate q.n.toNat ByteArray.empty, [], p.rules ++ q.rules.map (fun r => normR (mvR (shF p.n) r)), [⟨0, lvlL p q, lvlW p q⟩]⟩
theorem sh_lit {n k x : Int} (hn : 0 ≤ n) (h : litB x k = true) : litB (shF n x) (n + k) = true := by
  rw [litB_iff] at h ⊢
  by_cases h0 : 0 < x
  · rw [sh_pos (by omega)]; omega
  · rw [sh_neg (by omega)]; omega
theorem pre_sh {n k : Int} {r : GRule} (hn : 0 ≤ n) (hnk : n + k ≤ 4000) (hr : RuleIs r k) : PreRule (mvR (shF n) r) (n + k) := by
  have h0 := hr.n0
  have h1 := hr.n1
  refine ⟨by omega, hnk, fun a ha => ?_, fun hc e => hr.choice hc (List.map_eq_nil_iff.1 e), fun x hx => ?_, hr.plain, fun hs => ?_, hr.wt, hr.b0, hr.b1, ?_, ?_⟩
  · obtain ⟨b, hb, rfl⟩ := List.mem_map.1 ha
    have := inc_mem hr.head b hb
    rw [sh_pos this.1]; omega
  · obtain ⟨b, hb, rfl⟩ := List.mem_map.1 hx
    exact sh_lit hn (ord_lit hr.body b hb)
  · show r.w.length = (r.body.map _).length
    rw [List.length_map]; exact hr.wlen hs
  · show (r.head.map _).length ≤ _
    rw [List.length_map]; have := inc_lenN h0 hr.head; omega
  · show (r.body.map _).length ≤ _
    rw [List.length_map]; have := ordB_len h0 hr.body; omega
theorem sh_lt {n k x y : Int} (hn : 0 ≤ n) (hx : litB x k = true) (hy : litB y k = true) (h : litLt x y = true) : litLt (shF n x) (shF n y) = true := by
  rw [litB_iff] at hx hy
  unfold litLt at h ⊢
  simp only [Bool.or_eq_true, Bool.and_eq_true, decide_eq_true_eq] at h ⊢
  have e : ∀ z : Int, z ≠ 0 → absI (shF n z) = absI z + n := fun z hz => by
    unfold shF absI
    by_cases h0 : 0 < z
    · rw [if_pos h0, if_neg (by omega), if_neg (by omega)]
    · rw [if_neg h0, if_pos (by omega), if_pos (by omega)]; omega
  rw [e x hx.1, e y hy.1]
  have e2 : shF n y < shF n x ↔ y < x := by
    unfold shF
    split <;> split <;> omega
  rw [e2]
  omega
theorem ord_app {n k : Int} {a b : List Int} (hn : 0 ≤ n) (hk : 0 ≤ k) (ha : ordB n a = true) (hb : ordB k b = true) : ordB (n + k) (a ++ b.map (shF n)) = true := by
  unfold ordB at ha hb ⊢
  rw [ordGo_iff] at ha hb ⊢
  obtain ⟨a1, a2, _⟩ := ha
  obtain ⟨b1, b2, _⟩ := hb
  refine ⟨fun x hx => ?_, List.pairwise_append.2 ⟨a2, ?_, fun x hx y hy => ?_⟩, fun y e => by cases e⟩
  · rcases List.mem_append.1 hx with h | h
    · have := litB_iff.1 (a1 x h)
      exact litB_iff.2 (by omega)
    · obtain ⟨z, hz, rfl⟩ := List.mem_map.1 h
      exact sh_lit hn (b1 z hz)
  · rw [List.pairwise_map]
    exact b2.imp_of_mem fun {x y} hx hy h => sh_lt hn (b1 x hx) (b1 y hy) h
  · obtain ⟨z, hz, rfl⟩ := List.mem_map.1 hy
    have h1 := litB_iff.1 (a1 x hx)
    have h2 := litB_iff.1 (b1 z hz)
    unfold litLt
    rw [Bool.or_eq_true]
    refine .inl (decide_eq_true ?_)
    unfold absI shF
    split <;> split <;> split <;> omega
theorem min_cases {p : GProg} (hp : ProgIs p) (h1 : p.min.length ≤ 1) : ordB p.n (p.min.flatMap (·.lits)) = true ∧ (p.min.flatMap (·.w)).length = (p.min.flatMap (·.lits)).length ∧ (∀ y ∈ p.min.flatMap (·.w), 1 ≤ y) := by
  match hm : p.min, h1 with
  | [], _ => exact ⟨rfl, rfl, by simp⟩
  | [m], _ =>
    have ho := minGo_mem _ _ hp.min m (by rw [hm]; simp)
    unfold minOk at ho
    simp only [Bool.and_eq_true] at ho
    have hw := ho.1.1.2
    unfold wtB at hw
    rw [Bool.and_eq_true, decide_eq_true_eq] at hw
    simp only [List.flatMap_cons, List.flatMap_nil, List.append_nil]
    exact ⟨ho.1.1.1, hw.2, (wtGo_spec m.w 0 (by omega) (by omega) hw.1).1⟩
theorem flat_map (f : Int → Int) (ms : List GMin) : ms.flatMap (fun m => m.lits.map f) = (ms.flatMap (·.lits)).map f := by
  induction ms with
  | nil => rfl
  | cons m r ih => rw [List.flatMap_cons, List.flatMap_cons, List.map_append, ih]
section
variable {p q : GProg}
theorem both_is (hp : ProgIs p) (hq : ProgIs q) (hp0 : 0 ≤ p.n) (hq0 : 0 ≤ q.n) (h8 : p.n + q.n ≤ 4000) (hl : p.rules.length + q.rules.length ≤ 40000) (h1 : p.min.length ≤ 1) (h2 : q.min.length ≤ 1) (hw : (lvlW p q).sum ≤ 1048576) : ProgIs (bothP p q) := by
  obtain ⟨p1, p2, p3⟩ := min_cases hp h1
  obtain ⟨q1, q2, q3⟩ := min_cases hq h2
  refine ⟨?_, ?_, fun r hr => ?_, by show 1 ≤ 8; omega, ?_⟩
  · unfold namedB
    simp only [Bool.and_eq_true, decide_eq_true_eq]
    refine ⟨⟨⟨⟨by show 0 ≤ p.n + q.n; omega, h8⟩, ?_⟩, rfl⟩, ?_⟩
    · show (((List.replicate p.n.toNat ByteArray.empty ++ List.replicate q.n.toNat ByteArray.empty).length : Nat) : Int) = p.n + q.n
      rw [List.length_append, List.length_replicate, List.length_replicate]; omega
    · show namesGo [] (List.replicate p.n.toNat ByteArray.empty ++ List.replicate q.n.toNat ByteArray.empty) = true
      exact ex_names _ _ _ (by simp) (ex_zeros _ _ (by simp))
  · show (p.rules ++ q.rules.map _).length ≤ 40000
    rw [List.length_append, List.length_map]; exact hl
  · rcases List.mem_append.1 hr with h | h
    · exact (hp.rules r h).wide (show p.n ≤ p.n + q.n by omega) h8
    · obtain ⟨x, hx, rfl⟩ := List.mem_map.1 h
      exact norm_is (pre_sh hp0 h8 (hq.rules x hx))
  · show minGoE (p.n + q.n) none [⟨0, lvlL p q, lvlW p q⟩] = true
    rw [minGoE_cons]
    have ho : ordB (p.n + q.n) (lvlL p q) = true := by unfold lvlL; rw [flat_map]; exact ord_app hp0 hq0 p1 q1
    have hwt : wtGo 0 (lvlW p q) = true := wtGo_of _ _ (fun y hy => by
      unfold lvlW at hy
      rcases List.mem_append.1 hy with h | h
      · exact p3 y h
      · exact q3 y h) (by omega)
    have hll : (lvlW p q).length = (lvlL p q).length := by unfold lvlW lvlL; rw [flat_map, List.length_append, List.length_append, List.length_map, p2, q2]
    unfold minOk wtB
    simp only [ho, hwt, hll]
    rfl
/-- A set of the union. -/
def joinS (p : GProg) (x y : List Int) : List Int := x ++ y.map (shF p.n)
theorem join_inc (hp0 : 0 ≤ p.n) {x y : List Int} (hx : incB p.n x = true) (hy : incB q.n y = true) (hq0 : 0 ≤ q.n) : incB (p.n + q.n) (joinS p x y) = true := by
  have hx' := hx
  have hy' := hy
  unfold incB at hx hy ⊢
  rw [Bool.and_eq_true] at hx hy ⊢
  refine ⟨ord_app hp0 hq0 hx.1 hy.1, ?_⟩
  rw [List.all_eq_true]
  intro z hz
  rcases List.mem_append.1 hz with h | h
  · have := inc_mem hx' z h; exact decide_eq_true (by omega)
  · obtain ⟨a, ha, rfl⟩ := List.mem_map.1 h
    have := inc_mem hy' a ha
    rw [sh_pos this.1]; exact decide_eq_true (by omega)
theorem join_low {x y : List Int} (hy : ∀ a ∈ y, 1 ≤ a) (a : Int) (h : a ≤ p.n) : a ∈ joinS p x y ↔ a ∈ x := by
  unfold joinS
  rw [List.mem_append]
  refine ⟨fun k => ?_, .inl⟩
  rcases k with k | k
  · exact k
  · obtain ⟨b, hb, rfl⟩ := List.mem_map.1 k
    have := hy b hb
    rw [sh_pos this] at h; omega
theorem join_mvd {x y : List Int} (hx : ∀ a ∈ x, a ≤ p.n) (hy : ∀ a ∈ y, 1 ≤ a) (k : Int) : Mvd (shF p.n) k y (joinS p x y) := fun a h0 _ => by
  rw [sh_pos h0]
  unfold joinS
  rw [List.mem_append]
  constructor
  · intro h
    rcases h with h | h
    · have := hx _ h; omega
    · obtain ⟨b, hb, e⟩ := List.mem_map.1 h
      rw [sh_pos (hy b hb)] at e
      rwa [show a = b by omega]
  · intro h
    exact .inr (List.mem_map.2 ⟨a, h, sh_pos h0⟩)
theorem satM {r : GRule} {m : List Int} : satB r m = redB r m m := by
  unfold satB redB
  rw [bodyM_self]
  cases hc : r.choice with
  | false => simp
  | true =>
    simp only [Bool.true_or, if_true]
    rw [show (r.head.all fun a => !decide (a ∈ m) || decide (a ∈ m)) = true from List.all_eq_true.2 fun a _ => by cases decide (a ∈ m) <;> rfl]
    simp
theorem red_low {r : GRule} (hr : RuleIs r p.n) {x y s t : List Int} (hy : ∀ a ∈ y, 1 ≤ a) (ht : ∀ a ∈ t, 1 ≤ a) : redB r (joinS p x y) (joinS p s t) = redB r x s := by
  have hl := ord_lit hr.body
  refine redB_congr (fun a ha => join_low hy _ (by have := litB_iff.1 (hl a ha); omega)) (fun a ha => join_low ht _ (by have := litB_iff.1 (hl a ha); omega)) (fun a ha => ?_)
  have := inc_mem hr.head a ha
  exact ⟨join_low hy _ this.2, join_low ht _ this.2⟩
theorem red_high (hp0 : 0 ≤ p.n) {r : GRule} (hr : RuleIs r q.n) {x y s t : List Int} (hx : ∀ a ∈ x, a ≤ p.n) (hs : ∀ a ∈ s, a ≤ p.n) (hy : ∀ a ∈ y, 1 ≤ a) (ht : ∀ a ∈ t, 1 ≤ a) : redB (normR (mvR (shF p.n) r)) (joinS p x y) (joinS p s t) = redB r y t :=
  redB_mv (sh_lmap hp0) (join_mvd hx hy _) (join_mvd hs ht _) hr
theorem isL_both (hB : ProgIs (bothP p q)) (hp : ProgIs p) (hq : ProgIs q) (hp0 : 0 ≤ p.n) (hq0 : 0 ≤ q.n) {x y : List Int} (hx : incB p.n x = true) (hy : incB q.n y = true) : isL (bothP p q) (joinS p x y) = (isL p x && isL q y) := by
  have hn : (bothP p q).n = p.n + q.n := rfl
  have ix := inc_mem hx
  have iy := inc_mem hy
  have x1 : ∀ a ∈ x, a ≤ p.n := fun a ha => (ix a ha).2
  have y1 : ∀ a ∈ y, 1 ≤ a := fun a ha => (iy a ha).1
  have hall : ∀ s t : List Int, (∀ a ∈ s, a ≤ p.n) → (∀ a ∈ t, 1 ≤ a) → ((∀ r ∈ (bothP p q).rules, redB r (joinS p x y) (joinS p s t) = true) ↔ (∀ r ∈ p.rules, redB r x s = true) ∧ ∀ r ∈ q.rules, redB r y t = true) := fun s t hs ht => by
    constructor
    · intro k
      refine ⟨fun r hr => ?_, fun r hr => ?_⟩
      · rw [← red_low (hp.rules r hr) (x := x) (y := y) (s := s) (t := t) y1 ht]; exact k r (List.mem_append.2 (.inl hr))
      · rw [← red_high hp0 (hq.rules r hr) (x := x) (y := y) (s := s) (t := t) x1 hs y1 ht]; exact k _ (List.mem_append.2 (.inr (List.mem_map.2 ⟨r, hr, rfl⟩)))
    · rintro ⟨k1, k2⟩ r hr
      rcases List.mem_append.1 hr with h | h
      · rw [red_low (hp.rules r h) y1 ht]; exact k1 r h
      · obtain ⟨z, hz, rfl⟩ := List.mem_map.1 h
        rw [red_high hp0 (hq.rules z hz) x1 hs y1 ht]; exact k2 z hz
  rw [Bool.eq_iff_iff, Bool.and_eq_true, isL_sem hB (by rw [hn]; exact join_inc hp0 hx hy hq0) (by rw [hn]; omega), isL_sem hp hx hp0, isL_sem hq hy hq0]
  simp only [satM]
  rw [hall x y x1 y1]
  have hjoin : ∀ s t : List Int, (∀ a ∈ s, a ∈ x) → (∀ a ∈ t, a ∈ y) → ∀ z ∈ joinS p s t, z ∈ joinS p x y := fun s t hs ht z hz => by
    unfold joinS at hz ⊢
    rcases List.mem_append.1 hz with h | h
    · exact List.mem_append.2 (.inl (hs z h))
    · obtain ⟨b, hb, rfl⟩ := List.mem_map.1 h
      exact List.mem_append.2 (.inr (List.mem_map.2 ⟨b, ht b hb, rfl⟩))
  constructor
  · rintro ⟨⟨a1, a2⟩, b⟩
    refine ⟨⟨a1, fun s hs hr z hz => ?_⟩, a2, fun t ht hr z hz => ?_⟩
    · have s1 : ∀ a ∈ s, a ≤ p.n := fun a ha => x1 a (hs a ha)
      have := b (joinS p s y) (hjoin s y hs fun _ h => h) ((hall s y s1 y1).2 ⟨hr, a2⟩) z ((join_low y1 z (x1 z hz)).2 hz)
      exact (join_low y1 z (x1 z hz)).1 this
    · have t1 : ∀ a ∈ t, 1 ≤ a := fun a ha => y1 a (ht a ha)
      have h0 := iy z hz
      have := b (joinS p x t) (hjoin x t (fun _ h => h) ht) ((hall x t x1 t1).2 ⟨a1, hr⟩) (shF p.n z) ((join_mvd x1 y1 q.n z h0.1 h0.2).2 hz)
      exact (join_mvd x1 t1 q.n z h0.1 h0.2).1 this
  · rintro ⟨⟨a1, b1⟩, a2, b2⟩
    refine ⟨⟨a1, a2⟩, fun u hu hr z hz => ?_⟩
    have s1 : ∀ a ∈ x.filter (fun a => decide (a ∈ u)), a ≤ p.n := fun a ha => x1 a (List.mem_filter.1 ha).1
    have t1 : ∀ a ∈ y.filter (fun a => decide (shF p.n a ∈ u)), 1 ≤ a := fun a ha => y1 a (List.mem_filter.1 ha).1
    have he : ∀ z, z ∈ joinS p (x.filter fun a => decide (a ∈ u)) (y.filter fun a => decide (shF p.n a ∈ u)) ↔ z ∈ u := fun z => by
      constructor
      · intro h
        rcases List.mem_append.1 h with h | h
        · exact of_decide_eq_true (List.mem_filter.1 h).2
        · obtain ⟨b, hb, rfl⟩ := List.mem_map.1 h
          exact of_decide_eq_true (List.mem_filter.1 hb).2
      · intro h
        rcases List.mem_append.1 (hu z h) with k | k
        · exact List.mem_append.2 (.inl (List.mem_filter.2 ⟨k, decide_eq_true h⟩))
        · obtain ⟨b, hb, rfl⟩ := List.mem_map.1 k
          exact List.mem_append.2 (.inr (List.mem_map.2 ⟨b, List.mem_filter.2 ⟨hb, decide_eq_true h⟩, rfl⟩))
    have hr2 : ∀ r ∈ (bothP p q).rules, redB r (joinS p x y) (joinS p (x.filter fun a => decide (a ∈ u)) (y.filter fun a => decide (shF p.n a ∈ u))) = true := fun r hr' => by
      rw [← hr r hr']
      exact redB_congr (fun _ _ => Iff.rfl) (fun a _ => he a) (fun a _ => ⟨Iff.rfl, he a⟩)
    obtain ⟨r1, r2⟩ := (hall _ _ s1 t1).1 hr2
    rw [← he]
    rcases List.mem_append.1 hz with k | k
    · exact List.mem_append.2 (.inl (b1 _ (fun a ha => (List.mem_filter.1 ha).1) r1 z k))
    · obtain ⟨b, hb, rfl⟩ := List.mem_map.1 k
      exact List.mem_append.2 (.inr (List.mem_map.2 ⟨b, b2 _ (fun a ha => (List.mem_filter.1 ha).1) r2 b hb, rfl⟩))
theorem join_inj {x y x' y' : List Int} (hx : ∀ a ∈ x, a ≤ p.n) (hx' : ∀ a ∈ x', a ≤ p.n) (hy : ∀ a ∈ y, 1 ≤ a) (hy' : ∀ a ∈ y', 1 ≤ a) (h : joinS p x y = joinS p x' y') : x = x' ∧ y = y' := by
  have f : ∀ u v : List Int, (∀ a ∈ u, a ≤ p.n) → (∀ a ∈ v, 1 ≤ a) → (joinS p u v).filter (fun a => decide (a ≤ p.n)) = u ∧ ((joinS p u v).filter (fun a => !decide (a ≤ p.n))).map (fun a => a - p.n) = v := fun u v hu hv => by
    unfold joinS
    have e1 : u.filter (fun a => decide (a ≤ p.n)) = u := List.filter_eq_self.2 fun a ha => decide_eq_true (hu a ha)
    have e2 : (v.map (shF p.n)).filter (fun a => decide (a ≤ p.n)) = [] := List.filter_eq_nil_iff.2 fun a ha => by
      obtain ⟨b, hb, rfl⟩ := List.mem_map.1 ha
      have := hv b hb
      rw [sh_pos this]; simp; omega
    have e3 : u.filter (fun a => !decide (a ≤ p.n)) = [] := List.filter_eq_nil_iff.2 fun a ha => by simp [hu a ha]
    have e4 : (v.map (shF p.n)).filter (fun a => !decide (a ≤ p.n)) = v.map (shF p.n) := List.filter_eq_self.2 fun a ha => by
      obtain ⟨b, hb, rfl⟩ := List.mem_map.1 ha
      have := hv b hb
      rw [sh_pos this]; simp; omega
    refine ⟨by rw [List.filter_append, e1, e2, List.append_nil], ?_⟩
    rw [List.filter_append, e3, e4, List.nil_append, List.map_map]
    refine (List.map_congr_left fun a ha => ?_).trans (List.map_id _)
    show shF p.n a - p.n = id a
    rw [sh_pos (hv a ha)]; simp
  have a := f x y hx hy
  have b := f x' y' hx' hy'
  exact ⟨by rw [← a.1, ← b.1, h], by rw [← a.2, ← b.2, h]⟩
theorem join_split (hp0 : 0 ≤ p.n) (hq0 : 0 ≤ q.n) {m : List Int} (hm : incB (p.n + q.n) m = true) : ∃ x y, incB p.n x = true ∧ incB q.n y = true ∧ m = joinS p x y := by
  have im := inc_mem hm
  have e : ∀ (k : Int) (z : List Int), 0 ≤ k → z.Pairwise (· < ·) → (∀ a ∈ z, 1 ≤ a ∧ a ≤ k) → incB k z = true := fun k z hk h1 h2 => by
    have := (atoms_sub k.toNat z).1 (sub_of h1 (atoms_pair _) fun a ha => (atoms_mem _ _).2 (by have := h2 a ha; omega))
    rwa [show ((k.toNat : Nat) : Int) = k by omega] at this
  have hpw := inc_pair hm
  have ix : incB p.n (m.filter fun a => decide (a ≤ p.n)) = true := e _ _ hp0 (hpw.filter _) fun a ha => by
    have := List.mem_filter.1 ha
    exact ⟨(im a this.1).1, of_decide_eq_true this.2⟩
  have iy : incB q.n ((m.filter fun a => !decide (a ≤ p.n)).map fun a => a - p.n) = true := e _ _ hq0 (by
    rw [List.pairwise_map]
    exact (hpw.filter _).imp fun h => by omega) fun a ha => by
    obtain ⟨b, hb, rfl⟩ := List.mem_map.1 ha
    have h1 := List.mem_filter.1 hb
    have h2 := im b h1.1
    have h3 : ¬ b ≤ p.n := by simpa using h1.2
    omega
  refine ⟨_, _, ix, iy, inc_ext hpw (inc_pair (join_inc hp0 ix iy hq0)) fun a => ?_⟩
  unfold joinS
  rw [List.mem_append]
  constructor
  · intro ha
    by_cases h : a ≤ p.n
    · exact .inl (List.mem_filter.2 ⟨ha, decide_eq_true h⟩)
    · refine .inr (List.mem_map.2 ⟨a - p.n, List.mem_map.2 ⟨a, List.mem_filter.2 ⟨ha, by simp [h]⟩, rfl⟩, ?_⟩)
      rw [sh_pos (by omega)]; omega
  · rintro (ha | ha)
    · exact (List.mem_filter.1 ha).1
    · obtain ⟨b, hb, rfl⟩ := List.mem_map.1 ha
      obtain ⟨c, hc, rfl⟩ := List.mem_map.1 hb
      have h1 := List.mem_filter.1 hc
      have h3 : ¬ c ≤ p.n := by simpa using h1.2
      rw [sh_pos (by omega), show c - p.n + p.n = c by omega]; exact h1.1
theorem both_all (hB : ProgIs (bothP p q)) (hp : ProgIs p) (hq : ProgIs q) (hp0 : 0 ≤ p.n) (hq0 : 0 ≤ q.n) : ((allL p).flatMap fun x => (allL q).map fun y => joinS p x y).Perm (allL (bothP p q)) := by
  have hn : (bothP p q).n = p.n + q.n := rfl
  have hb0 : 0 ≤ (bothP p q).n := by rw [hn]; omega
  have bd : ∀ x ∈ allL p, incB p.n x = true ∧ ∀ a ∈ x, a ≤ p.n := fun x hx => by
    have := ((all_mem p hp0 x).1 hx).1
    exact ⟨this, fun a ha => (inc_mem this a ha).2⟩
  have bq : ∀ y ∈ allL q, incB q.n y = true ∧ ∀ a ∈ y, 1 ≤ a := fun y hy => by
    have := ((all_mem q hq0 y).1 hy).1
    exact ⟨this, fun a ha => (inc_mem this a ha).1⟩
  refine (List.perm_ext_iff_of_nodup ?_ (all_nodup _)).2 fun m => ?_
  · rw [List.nodup_iff_pairwise_ne, List.pairwise_flatMap]
    refine ⟨fun x hx => ?_, (List.nodup_iff_pairwise_ne.1 (all_nodup p)).imp_of_mem fun {x x'} hx hx' hne m hm m' hm' e => ?_⟩
    · exact List.nodup_iff_pairwise_ne.1 (nodup_map_on (all_nodup q) fun y hy y' hy' e => (join_inj (bd x hx).2 (bd x hx).2 (bq y hy).2 (bq y' hy').2 e).2)
    · obtain ⟨y, hy, rfl⟩ := List.mem_map.1 hm
      obtain ⟨y', hy', rfl⟩ := List.mem_map.1 hm'
      exact hne (join_inj (bd x hx).2 (bd x' hx').2 (bq y hy).2 (bq y' hy').2 e).1
  · rw [List.mem_flatMap, all_mem (bothP p q) hb0, hn]
    constructor
    · rintro ⟨x, hx, hm⟩
      obtain ⟨y, hy, rfl⟩ := List.mem_map.1 hm
      refine ⟨join_inc hp0 (bd x hx).1 (bq y hy).1 hq0, ?_⟩
      rw [isL_both hB hp hq hp0 hq0 (bd x hx).1 (bq y hy).1, ((all_mem p hp0 x).1 hx).2, ((all_mem q hq0 y).1 hy).2]; rfl
    · rintro ⟨h1, h2⟩
      obtain ⟨x, y, ix, iy, rfl⟩ := join_split hp0 hq0 h1
      rw [isL_both hB hp hq hp0 hq0 ix iy, Bool.and_eq_true] at h2
      exact ⟨x, (all_mem p hp0 x).2 ⟨ix, h2.1⟩, List.mem_map.2 ⟨y, (all_mem q hq0 y).2 ⟨iy, h2.2⟩, rfl⟩⟩
theorem both_len (hB : ProgIs (bothP p q)) (hp : ProgIs p) (hq : ProgIs q) (hp0 : 0 ≤ p.n) (hq0 : 0 ≤ q.n) : (allL (bothP p q)).length = (allL p).length * (allL q).length := by
  rw [← (both_all hB hp hq hp0 hq0).length_eq]
  induction allL p with
  | nil => simp
  | cons x r ih => rw [List.flatMap_cons, List.length_append, ih, List.length_map, List.length_cons, Nat.add_mul]; omega
theorem sumT_app (m : List Int) : ∀ (a wa b wb : List Int), wa.length = a.length → sumT (a ++ b) (wa ++ wb) m = sumT a wa m + sumT b wb m
  | [], [], b, wb, _ => by simp [sumT]
  | [], _ :: _, _, _, h => by simp at h
  | _ :: _, [], _, _, h => by simp at h
  | x :: a, y :: wa, b, wb, h => by
    rw [List.cons_append, List.cons_append, sumT_cons, sumT_cons, sumT_app m a wa b wb (by simpa using h)]; omega
theorem cost_one {p : GProg} (h1 : p.min.length ≤ 1) (m : List Int) : (costL p m).sum = sumT (p.min.flatMap (·.lits)) (p.min.flatMap (·.w)) m := by
  unfold costL
  match hm : p.min, h1 with
  | [], _ => rfl
  | [l], _ => simp
/-- The costs add up. -/
theorem both_cost (hp : ProgIs p) (hq : ProgIs q) (hp0 : 0 ≤ p.n) (h1 : p.min.length ≤ 1) (h2 : q.min.length ≤ 1) {x y : List Int} (hx : incB p.n x = true) (hy : incB q.n y = true) : costL (bothP p q) (joinS p x y) = [(costL p x).sum + (costL q y).sum] := by
  obtain ⟨p1, p2, p3⟩ := min_cases hp h1
  obtain ⟨q1, q2, q3⟩ := min_cases hq h2
  have ix := inc_mem hx
  have iy := inc_mem hy
  show [sumT (lvlL p q) (lvlW p q) (joinS p x y)] = _
  unfold lvlL lvlW
  rw [flat_map, sumT_app _ _ _ _ _ p2, cost_one h1, cost_one h2]
  congr 2
  · rw [sumG_true, sumG_true]
    refine sumG_congr _ _ fun a ha => ?_
    have hl := litB_iff.1 (ord_lit p1 a ha)
    have e : ∀ b : Int, b ≤ p.n → decide (b ∈ joinS p x y) = decide (b ∈ x) := fun b hb => by
      rw [Bool.eq_iff_iff, decide_eq_true_eq, decide_eq_true_eq]; exact join_low (fun a ha => (iy a ha).1) b hb
    show trueB a _ = trueB a _
    unfold trueB
    rw [e a (by omega), e (-a) (by omega)]
  · rw [sumG_true, sumG_true]
    exact sumG_map _ _ _ _ _ fun a ha => lit_mv (sh_lmap hp0) (join_mvd (fun a ha => (ix a ha).2) (fun a ha => (iy a ha).1) _) (join_mvd (fun a ha => (ix a ha).2) (fun a ha => (iy a ha).1) _) (ord_lit q1 a ha)
end
end Go.Proofs.YtdkjanbfheehoaaGreat

/- The search of graph.components, plain: what it has found out in every round: the comps on the list are the strong components. -/
import Derived.Test.YtbfbkpoakmnlpaaTrj
namespace Go.Proofs.Ytbfbkpoakmnlpaa
inductive Rch (g : List (List Int)) : Int → Int → Prop
  | refl (a : Int) : Rch g a a
  | step {a b c : Int} (h : b ∈ rowZ g a) (k : Rch g b c) : Rch g a c
theorem Rch.trans {g : List (List Int)} {a b c : Int} (h : Rch g a b) (k : Rch g b c) : Rch g a c := by
  induction h with
  | refl a => exact k
  | step h _ ih => exact .step h (ih k)
theorem Rch.edge {g : List (List Int)} {a b : Int} (h : b ∈ rowZ g a) : Rch g a b := .step h (.refl b)
/-- The part of the stack that belongs to a frame: from its atom up to hi; m edges of the atom are done. -/
structure SegP (g : List (List Int)) (s : TS) (hi : Int) (a : Int) (m : Nat) : Prop where
  mem : a ∈ s.stack
  lt : nthZ s.idx a < hi
  low : nthZ s.low a ≤ nthZ s.idx a
  at_ : ∃ y ∈ s.stack, nthZ s.idx y = nthZ s.low a ∧ Rch g a y
  up : ∀ x ∈ s.stack, nthZ s.idx a ≤ nthZ s.idx x → nthZ s.idx x < hi → Rch g a x
  blk : ∀ x ∈ s.stack, nthZ s.idx a ≤ nthZ s.idx x → nthZ s.idx x < hi → x ≠ a → ∃ y ∈ s.stack, nthZ s.idx y < nthZ s.idx x ∧ Rch g x y ∧ nthZ s.low a ≤ nthZ s.idx y
  edg : ∀ x ∈ s.stack, nthZ s.idx a ≤ nthZ s.idx x → nthZ s.idx x < hi → x ≠ a → ∀ y ∈ rowZ g x, nthZ s.idx y ≠ 0 ∧ (y ∈ s.stack → nthZ s.low a ≤ nthZ s.idx y)
  own : ∀ i y, i < m → (rowZ g a)[i]? = some y → nthZ s.idx y ≠ 0 ∧ (y ∈ s.stack → nthZ s.low a ≤ nthZ s.idx y)
/-- The frames under the atom b. -/
def SegR (g : List (List Int)) (s : TS) : Int → Int → List (Int × Nat) → Prop
  | hi, _, [] => ∀ x ∈ s.stack, hi ≤ nthZ s.idx x
  | hi, b, (u, j) :: r => (∃ i, j = i + 1 ∧ (rowZ g u)[i]? = some b ∧ SegP g s hi u i) ∧ SegR g s (nthZ s.idx u) u r
/-- What a step leaves below hi. -/
structure Trn (s s' : TS) (hi : Int) : Prop where
  t1 : ∀ x ∈ s.stack, nthZ s.idx x < hi → x ∈ s'.stack
  t2 : ∀ x ∈ s'.stack, nthZ s'.idx x < hi → x ∈ s.stack
  t2' : ∀ x ∈ s'.stack, nthZ s.idx x ≠ 0 → x ∈ s.stack
  t3 : ∀ x, nthZ s.idx x ≠ 0 → nthZ s'.idx x = nthZ s.idx x
  t4 : ∀ x ∈ s.stack, nthZ s.idx x < hi → nthZ s'.low x = nthZ s.low x
theorem Trn.less {s s' : TS} {hi lo : Int} (h : Trn s s' hi) (hl : lo ≤ hi) : Trn s s' lo :=
  ⟨fun x hx k => h.t1 x hx (by omega), fun x hx k => h.t2 x hx (by omega), h.t2', h.t3, fun x hx k => h.t4 x hx (by omega)⟩
theorem SegP.trn {g : List (List Int)} {s s' : TS} {hi a : Int} {m : Nat} (h : SegP g s hi a m) (hv : ∀ x ∈ s.stack, nthZ s.idx x ≠ 0) (t : Trn s s' hi) : SegP g s' hi a m := by
  have ea := t.t3 a (hv a h.mem)
  have el := t.t4 a h.mem h.lt
  have back : ∀ x ∈ s'.stack, nthZ s'.idx x < hi → x ∈ s.stack ∧ nthZ s'.idx x = nthZ s.idx x := fun x hx hl => by
    have := t.t2 x hx hl
    exact ⟨this, t.t3 x (hv x this)⟩
  refine ⟨t.t1 a h.mem h.lt, by rw [ea]; exact h.lt, by rw [ea, el]; exact h.low, ?_, fun x hx h1 h2 => ?_, fun x hx h1 h2 hne => ?_, fun x hx h1 h2 hne y hy => ?_, fun i y hi hy => ?_⟩
  · obtain ⟨y, hy, e, r⟩ := h.at_
    have := h.low
    have := h.lt
    exact ⟨y, t.t1 y hy (by omega), by rw [t.t3 y (hv y hy), el]; exact e, r⟩
  · obtain ⟨b1, b2⟩ := back x hx h2
    rw [ea, b2] at h1; rw [b2] at h2
    exact h.up x b1 h1 h2
  · obtain ⟨b1, b2⟩ := back x hx h2
    rw [ea, b2] at h1; rw [b2] at h2
    obtain ⟨y, hy, e, r, l⟩ := h.blk x b1 h1 h2 hne
    exact ⟨y, t.t1 y hy (by omega), by rw [t.t3 y (hv y hy), b2]; exact e, r, by rw [t.t3 y (hv y hy), el]; exact l⟩
  · obtain ⟨b1, b2⟩ := back x hx h2
    rw [ea, b2] at h1; rw [b2] at h2
    obtain ⟨e, l⟩ := h.edg x b1 h1 h2 hne y hy
    exact ⟨by rw [t.t3 y e]; exact e, fun hm => by rw [t.t3 y e, el]; exact l (t.t2' y hm e)⟩
  · obtain ⟨e, l⟩ := h.own i y hi hy
    exact ⟨by rw [t.t3 y e]; exact e, fun hm => by rw [t.t3 y e, el]; exact l (t.t2' y hm e)⟩
theorem SegR.trn {g : List (List Int)} {s s' : TS} (hv : ∀ x ∈ s.stack, nthZ s.idx x ≠ 0) : ∀ {r : List (Int × Nat)} {hi b : Int}, SegR g s hi b r → Trn s s' hi → SegR g s' hi b r
  | [], hi, b, h, t => fun x hx => by
    by_cases hl : nthZ s'.idx x < hi
    · have h1 := t.t2 x hx hl
      have := h x h1
      rw [t.t3 x (hv x h1)] at hl; omega
    · omega
  | (u, j) :: r, hi, b, h, t => by
    obtain ⟨⟨i, e, hb, hp⟩, hr⟩ := h
    refine ⟨⟨i, e, hb, hp.trn hv t⟩, ?_⟩
    rw [t.t3 u (hv u hp.mem)]
    exact SegR.trn hv hr (t.less (by have := hp.lt; omega))
def HeadI (g : List (List Int)) (s : TS) : Prop :=
  match s.calls with
  | [] => s.stack = []
  | (a, k) :: rest => (nthZ s.idx a = 0 ∧ k = 0 ∧ SegR g s (s.cnt + 1) a rest) ∨ (nthZ s.idx a ≠ 0 ∧ SegP g s (s.cnt + 1) a k ∧ SegR g s (nthZ s.idx a) a rest)
structure TCo (g : List (List Int)) (s : TS) : Prop where
  ord : s.stack.Pairwise fun x y => nthZ s.idx x < nthZ s.idx y
  bd : ∀ x ∈ s.stack, nthZ s.idx x ≤ s.cnt
  on : ∀ x, 1 ≤ x → x < (g.length : Int) → (0 < nthZ s.on x ↔ x ∈ s.stack)
  all : ∀ x, 1 ≤ x → x < (g.length : Int) → nthZ s.idx x ≠ 0 → x ∈ s.stack ∨ ∃ c ∈ s.out, x ∈ c
  outv : ∀ c ∈ s.out, ∀ x ∈ c, 1 ≤ x ∧ x < (g.length : Int) ∧ nthZ s.idx x ≠ 0 ∧ x ∉ s.stack
  dis : s.out.Pairwise fun c d => ∀ x ∈ c, x ∉ d
  inc : ∀ c ∈ s.out, c ≠ [] ∧ c.Pairwise (· < ·)
  scc : ∀ c ∈ s.out, ∀ x ∈ c, ∀ y ∈ c, Rch g x y
  cl : ∀ (i : Nat) c, s.out[i]? = some c → ∀ x ∈ c, ∀ y ∈ rowZ g x, ∃ j ≤ i, ∃ d, s.out[j]? = some d ∧ y ∈ d
/-- After the visit. -/
theorem visit_co {g : List (List Int)} {s : TS} {a : Int} {k : Nat} {rest : List (Int × Nat)} (h : TOk g s) (c : TCo g s) (hh : HeadI g s) (hc : s.calls = (a, k) :: rest) :
    TCo g (tVisit s a k) ∧ SegP g (tVisit s a k) ((tVisit s a k).cnt + 1) a k ∧ SegR g (tVisit s a k) (nthZ (tVisit s a k).idx a) a rest := by
  have hcall := h.call
  rw [hc] at hcall
  obtain ⟨a1, a2, a3⟩ := hcall (a, k) (List.mem_cons_self ..)
  simp only at a1 a2 a3
  unfold HeadI at hh
  rw [hc] at hh
  unfold tVisit
  rcases hh with ⟨h0, hk, hr⟩ | ⟨h0, hp, hr⟩
  · rw [if_pos ⟨hk, h0⟩]
    subst hk
    have hcn : s.cnt + 1 ≠ 0 := by have := h.cnt; omega
    have hup : ∀ x, 0 ≤ x → nthZ (updZ s.idx a (s.cnt + 1)) x = if a = x then s.cnt + 1 else nthZ s.idx x := fun x hx => nthZ_upd _ _ _ _ (by omega) hx (by have := h.li; omega)
    have hlw : ∀ x, 0 ≤ x → nthZ (updZ s.low a (s.cnt + 1)) x = if a = x then s.cnt + 1 else nthZ s.low x := fun x hx => nthZ_upd _ _ _ _ (by omega) hx (by have := h.ll; omega)
    have hon : ∀ x, 0 ≤ x → nthZ (updZ s.on a 1) x = if a = x then 1 else nthZ s.on x := fun x hx => nthZ_upd _ _ _ _ (by omega) hx (by have := h.lo; omega)
    have hne : ∀ x, nthZ s.idx x ≠ 0 → a ≠ x := fun x hx e => hx (by rw [← e]; exact h0)
    have hsv : ∀ x ∈ s.stack, nthZ s.idx x ≠ 0 := fun x hx => (h.vis x hx).2.2
    have hidx : ∀ x, nthZ s.idx x ≠ 0 → nthZ (updZ s.idx a (s.cnt + 1)) x = nthZ s.idx x := fun x hx => by
      by_cases hx0 : 0 ≤ x
      · rw [hup x hx0, if_neg (hne x hx)]
      · have e : x.toNat = 0 := by omega
        unfold nthZ updZ
        rw [List.getD_eq_getElem?_getD, List.getElem?_set, if_neg (by omega), List.getD_eq_getElem?_getD]
    have hea : nthZ (updZ s.idx a (s.cnt + 1)) a = s.cnt + 1 := by rw [hup a (by omega), if_pos rfl]
    have hla : nthZ (updZ s.low a (s.cnt + 1)) a = s.cnt + 1 := by rw [hlw a (by omega), if_pos rfl]
    have hnew : ∀ x ∈ s.stack ++ [a], x ∈ s.stack ∨ x = a := fun x hx => by
      rcases List.mem_append.1 hx with h | h
      · exact .inl h
      · exact .inr (by simpa using h)
    refine ⟨⟨?_, fun x hx => ?_, fun x h1 h2 => ?_, fun x h1 h2 hx => ?_, fun d hd x hx => ?_, c.dis, c.inc, c.scc, c.cl⟩, ⟨by simp, ?_, ?_, ⟨a, by simp, ?_, .refl a⟩, fun x hx h1 h2 => ?_, fun x hx h1 h2 hn => ?_, fun x hx h1 h2 hn => ?_, fun i y hi => by omega⟩, ?_⟩
    · rw [List.pairwise_append]
      refine ⟨c.ord.imp_of_mem fun {x y} hx hy hl => ?_, by simp, fun x hx y hy => ?_⟩
      · rw [hidx x (hsv x hx), hidx y (hsv y hy)]; exact hl
      · simp at hy; subst hy
        rw [hidx x (hsv x hx), hea]; have := c.bd x hx; omega
    · rcases hnew x hx with hx | rfl
      · show nthZ (updZ s.idx a (s.cnt + 1)) x ≤ s.cnt + 1
        rw [hidx x (hsv x hx)]; have := c.bd x hx; omega
      · show nthZ (updZ s.idx x (s.cnt + 1)) x ≤ s.cnt + 1
        rw [hea]; omega
    · show 0 < nthZ (updZ s.on a 1) x ↔ x ∈ s.stack ++ [a]
      rw [hon x (by omega), List.mem_append]
      by_cases e : a = x
      · subst e; simp
      · rw [if_neg e, c.on x h1 h2]; simp [Ne.symm e]
    · rw [hup x (by omega)] at hx
      by_cases e : a = x
      · subst e; exact .inl (by simp)
      · rw [if_neg e] at hx
        rcases c.all x h1 h2 hx with h | h
        · exact .inl (List.mem_append.2 (.inl h))
        · exact .inr h
    · obtain ⟨o1, o2, o3, o4⟩ := c.outv d hd x hx
      refine ⟨o1, o2, by rw [hidx x o3]; exact o3, fun hm => ?_⟩
      rcases hnew x hm with h | h
      · exact o4 h
      · exact hne x o3 h.symm
    · show nthZ (updZ s.idx a (s.cnt + 1)) a < s.cnt + 1 + 1
      rw [hea]; omega
    · show nthZ (updZ s.low a (s.cnt + 1)) a ≤ nthZ (updZ s.idx a (s.cnt + 1)) a
      rw [hea, hla]; omega
    · show nthZ (updZ s.idx a (s.cnt + 1)) a = nthZ (updZ s.low a (s.cnt + 1)) a
      rw [hea, hla]
    · rcases hnew x hx with hx | rfl
      · exfalso
        have h1 : nthZ (updZ s.idx a (s.cnt + 1)) a ≤ nthZ (updZ s.idx a (s.cnt + 1)) x := h1
        rw [hea, hidx x (hsv x hx)] at h1; have := c.bd x hx; omega
      · exact .refl _
    · rcases hnew x hx with hx | rfl
      · exfalso
        have h1 : nthZ (updZ s.idx a (s.cnt + 1)) a ≤ nthZ (updZ s.idx a (s.cnt + 1)) x := h1
        rw [hea, hidx x (hsv x hx)] at h1; have := c.bd x hx; omega
      · exact absurd rfl hn
    · rcases hnew x hx with hx | rfl
      · exfalso
        have h1 : nthZ (updZ s.idx a (s.cnt + 1)) a ≤ nthZ (updZ s.idx a (s.cnt + 1)) x := h1
        rw [hea, hidx x (hsv x hx)] at h1; have := c.bd x hx; omega
      · exact absurd rfl hn
    · show SegR g _ (nthZ (updZ s.idx a (s.cnt + 1)) a) a rest
      rw [hea]
      refine SegR.trn hsv hr ⟨fun x hx _ => List.mem_append.2 (.inl hx), fun x hx hl => ?_, fun x hx hv => ?_, hidx, fun x hx _ => ?_⟩
      · rcases hnew x hx with hx | rfl
        · exact hx
        · exfalso
          have hl : nthZ (updZ s.idx x (s.cnt + 1)) x < s.cnt + 1 := hl
          rw [hea] at hl; omega
      · rcases hnew x hx with hx | rfl
        · exact hx
        · exact absurd h0 hv
      · show nthZ (updZ s.low a (s.cnt + 1)) x = nthZ s.low x
        rw [hlw x (by have := (h.vis x hx).1; omega), if_neg (hne x (hsv x hx))]
  · rw [if_neg (fun e => h0 e.2)]
    exact ⟨c, hp, hr⟩
theorem TCo.of_low {g : List (List Int)} {s : TS} (c : TCo g s) (calls : List (Int × Nat)) (low : List Int) : TCo g { s with calls := calls, low := low } := ⟨c.ord, c.bd, c.on, c.all, c.outv, c.dis, c.inc, c.scc, c.cl⟩
theorem next_co {g : List (List Int)} (hg : GOk g) {s : TS} {a : Int} {k : Nat} {rest : List (Int × Nat)} {b : Int} (h : TVis g s a k rest) (c : TCo g s) (hp : SegP g s (s.cnt + 1) a k) (hr : SegR g s (nthZ s.idx a) a rest) (hb : (rowZ g a)[k]? = some b) :
    TCo g (tNext s a k rest b) ∧ HeadI g (tNext s a k rest b) := by
  obtain ⟨b1, b2⟩ := hg.ent a b (List.mem_of_getElem? hb)
  have ha := h.seen (a, k) (List.mem_cons_self ..)
  obtain ⟨a1, a2, -⟩ := h.call (a, k) (List.mem_cons_self ..)
  simp only at a1 a2 ha
  unfold tNext
  by_cases h1 : nthZ s.idx b = 0
  · rw [if_pos h1]
    exact ⟨c.of_low _ s.low, .inl ⟨h1, rfl, ⟨k, rfl, hb, hp.trn (fun x hx => (h.vis x hx).2.2) ⟨fun x hx _ => hx, fun x hx _ => hx, fun x hx _ => hx, fun x _ => rfl, fun x _ _ => rfl⟩⟩, SegR.trn (s' := { s with calls := (b, 0) :: (a, k + 1) :: rest }) (fun x hx => (h.vis x hx).2.2) hr ⟨fun x hx _ => hx, fun x hx _ => hx, fun x hx _ => hx, fun x _ => rfl, fun x _ _ => rfl⟩⟩⟩
  · rw [if_neg h1]
    have own : ∀ (lw : Int), lw ≤ nthZ s.low a → (b ∈ s.stack → lw ≤ nthZ s.idx b) → ∀ i y, i < k + 1 → (rowZ g a)[i]? = some y → nthZ s.idx y ≠ 0 ∧ (y ∈ s.stack → lw ≤ nthZ s.idx y) := fun lw hl hlb i y hi hy => by
      by_cases e : i = k
      · subst e
        rw [hb] at hy; cases hy
        exact ⟨h1, hlb⟩
      · obtain ⟨q1, q2⟩ := hp.own i y (by omega) hy
        exact ⟨q1, fun hm => by have := q2 hm; omega⟩
    by_cases h2 : 0 < nthZ s.on b
    · rw [if_pos h2]
      have hbs := (c.on b b1 b2).1 h2
      have hlw : ∀ x, 0 ≤ x → nthZ (updZ s.low a (min (nthZ s.low a) (nthZ s.idx b))) x = if a = x then min (nthZ s.low a) (nthZ s.idx b) else nthZ s.low x := fun x hx => nthZ_upd _ _ _ _ (by omega) hx (by have := h.ll; omega)
      have hla := hlw a (by omega)
      rw [if_pos rfl] at hla
      have hm1 : min (nthZ s.low a) (nthZ s.idx b) ≤ nthZ s.low a := Int.min_le_left _ _
      have hm2 : min (nthZ s.low a) (nthZ s.idx b) ≤ nthZ s.idx b := Int.min_le_right _ _
      refine ⟨c.of_low _ _, .inr ⟨ha, ⟨hp.mem, hp.lt, ?_, ?_, hp.up, fun x hx q1 q2 hn => ?_, fun x hx q1 q2 hn y hy => ?_, fun i y hi hy => ?_⟩, ?_⟩⟩
      · show nthZ (updZ s.low a _) a ≤ nthZ s.idx a
        rw [hla]; have := hp.low; omega
      · show ∃ y ∈ s.stack, nthZ s.idx y = nthZ (updZ s.low a _) a ∧ _
        rw [hla]
        by_cases e : nthZ s.low a ≤ nthZ s.idx b
        · obtain ⟨y, hy, e1, r⟩ := hp.at_
          exact ⟨y, hy, by rw [e1]; omega, r⟩
        · exact ⟨b, hbs, by omega, .edge (List.mem_of_getElem? hb)⟩
      · obtain ⟨y, hy, e1, r, l⟩ := hp.blk x hx q1 q2 hn
        refine ⟨y, hy, e1, r, ?_⟩
        show nthZ (updZ s.low a _) a ≤ nthZ s.idx y
        rw [hla]; omega
      · obtain ⟨q3, q4⟩ := hp.edg x hx q1 q2 hn y hy
        refine ⟨q3, fun hm => ?_⟩
        show nthZ (updZ s.low a _) a ≤ nthZ s.idx y
        rw [hla]; have := q4 hm; omega
      · show nthZ s.idx y ≠ 0 ∧ (y ∈ s.stack → nthZ (updZ s.low a _) a ≤ nthZ s.idx y)
        rw [hla]
        exact own _ hm1 (fun _ => hm2) i y hi hy
      · refine SegR.trn (s := s) (fun x hx => (h.vis x hx).2.2) hr ⟨fun x hx _ => hx, fun x hx _ => hx, fun x hx _ => hx, fun x _ => rfl, fun x hx hl => ?_⟩
        show nthZ (updZ s.low a _) x = nthZ s.low x
        rw [hlw x (by have := (h.vis x hx).1; omega), if_neg (fun e => by subst e; exact absurd hl (Int.lt_irrefl _))]
    · rw [if_neg h2]
      have hbs : b ∉ s.stack := fun e => h2 ((c.on b b1 b2).2 e)
      exact ⟨c.of_low _ s.low, .inr ⟨ha, ⟨hp.mem, hp.lt, hp.low, hp.at_, hp.up, hp.blk, hp.edg, own _ (Int.le_refl _) fun e => absurd e hbs⟩, SegR.trn (s := s) (fun x hx => (h.vis x hx).2.2) hr ⟨fun x hx _ => hx, fun x hx _ => hx, fun x hx _ => hx, fun x _ => rfl, fun x _ _ => rfl⟩⟩⟩
/-- The stack above an atom. -/
theorem drop_mem {s : List Int} {f : Int → Int} (ho : s.Pairwise fun x y => f x < f y) {a : Int} (ha : a ∈ s) (x : Int) : (x ∈ s.drop (s.idxOf a) ↔ x ∈ s ∧ f a ≤ f x) ∧ (x ∈ s.take (s.idxOf a) ↔ x ∈ s ∧ f x < f a) := by
  induction s with
  | nil => cases ha
  | cons y t ih =>
    rw [List.pairwise_cons] at ho
    by_cases e : y = a
    · subst e
      rw [List.idxOf_cons_self, List.drop_zero, List.take_zero]
      refine ⟨⟨fun h => ⟨h, ?_⟩, fun h => h.1⟩, ⟨fun h => (by cases h), fun h => ?_⟩⟩
      · rcases List.mem_cons.1 h with rfl | h
        · exact Int.le_refl _
        · have := ho.1 x h; omega
      · exfalso
        rcases List.mem_cons.1 h.1 with rfl | h1
        · omega
        · have := ho.1 x h1; omega
    · have ha' : a ∈ t := by
        rcases List.mem_cons.1 ha with h | h
        · exact absurd h.symm e
        · exact h
      have hi : (y :: t).idxOf a = t.idxOf a + 1 := by rw [List.idxOf_cons, show (y == a) = false from beq_false_of_ne e]; rfl
      have := ih ho.2 ha'
      have hya := ho.1 a ha'
      rw [hi, List.drop_succ_cons, List.take_succ_cons]
      refine ⟨⟨fun h => ?_, fun h => ?_⟩, ⟨fun h => ?_, fun h => ?_⟩⟩
      · have := this.1.1 h; exact ⟨List.mem_cons_of_mem _ this.1, this.2⟩
      · rcases List.mem_cons.1 h.1 with rfl | h1
        · have := h.2; omega
        · exact this.1.2 ⟨h1, h.2⟩
      · rcases List.mem_cons.1 h with rfl | h
        · exact ⟨List.mem_cons_self .., hya⟩
        · have := this.2.1 h; exact ⟨List.mem_cons_of_mem _ this.1, this.2⟩
      · rcases List.mem_cons.1 h.1 with rfl | h1
        · exact List.mem_cons_self ..
        · exact List.mem_cons_of_mem _ (this.2.2 ⟨h1, h.2⟩)
theorem offAll_nth : ∀ (c on : List Int) (x : Int), 0 ≤ x → (∀ b ∈ c, 0 ≤ b ∧ b < (on.length : Int)) → nthZ (offAll on c) x = if x ∈ c then 0 else nthZ on x
  | [], on, x, _, _ => by simp [offAll]
  | b :: c, on, x, hx, h => by
    have hb := h b (List.mem_cons_self ..)
    rw [offAll, offAll_nth c _ x hx fun y hy => by rw [updZ_len]; exact h y (List.mem_cons_of_mem _ hy), nthZ_upd _ _ _ _ hb.1 hx hb.2]
    by_cases e : b = x
    · subst e; simp
    · have e' : ¬ x = b := fun k => e k.symm
      simp [e, e']
theorem sortZ_perm (l : List Int) : (sortZ l).Perm l := List.mergeSort_perm _ _
theorem sortZ_mem (l : List Int) (x : Int) : x ∈ sortZ l ↔ x ∈ l := (sortZ_perm l).mem_iff
theorem sortZ_lt {l : List Int} (hn : l.Nodup) : (sortZ l).Pairwise (· < ·) := by
  have h1 : (sortZ l).Pairwise fun x y => decide (x ≤ y) = true := List.pairwise_mergeSort (fun a b c h1 h2 => by simp at h1 h2 ⊢; omega) (fun a b => by simp; omega) l
  have h2 : (sortZ l).Nodup := (sortZ_perm l).nodup_iff.2 hn
  exact (h1.and h2).imp fun {x y} h => by
    have := h.1
    simp at this
    have := h.2
    omega
/-- The comp that a pop takes off the stack. -/
theorem comp_co {g : List (List Int)} {s : TS} {a : Int} (h : TOk g s) (c : TCo g s) (ha : a ∈ s.stack) (he : nthZ s.low a = nthZ s.idx a)
    (rto : ∀ x ∈ s.stack, nthZ s.idx a ≤ nthZ s.idx x → Rch g x a) (rfr : ∀ x ∈ s.stack, nthZ s.idx a ≤ nthZ s.idx x → Rch g a x)
    (ed : ∀ x ∈ s.stack, nthZ s.idx a ≤ nthZ s.idx x → ∀ y ∈ rowZ g x, (1 ≤ y ∧ y < (g.length : Int)) ∧ nthZ s.idx y ≠ 0 ∧ (y ∈ s.stack → nthZ s.idx a ≤ nthZ s.idx y)) :
    TCo g (tComp s a) ∧ (∀ x, x ∈ (tComp s a).stack ↔ x ∈ s.stack ∧ nthZ s.idx x < nthZ s.idx a) := by
  have hdt := drop_mem (f := nthZ s.idx) c.ord ha
  unfold tComp
  rw [if_pos he]
  have hnd : (s.stack.drop (s.stack.idxOf a)).Nodup := h.nd.sublist (List.drop_sublist _ _)
  have hon : ∀ x, 0 ≤ x → nthZ (offAll s.on (s.stack.drop (s.stack.idxOf a))) x = if x ∈ s.stack.drop (s.stack.idxOf a) then 0 else nthZ s.on x := fun x hx => offAll_nth _ _ _ hx fun b hb => by
    have := h.vis b (List.mem_of_mem_drop hb)
    have := h.lo
    omega
  refine ⟨⟨c.ord.sublist (List.take_sublist _ _), fun x hx => c.bd x (List.mem_of_mem_take hx), fun x h1 h2 => ?_, fun x h1 h2 hx => ?_, fun d hd x hx => ?_, ?_, fun d hd => ?_, fun d hd x hx y hy => ?_, fun i d hd x hx y hy => ?_⟩, fun x => (hdt x).2⟩
  · show 0 < nthZ (offAll s.on _) x ↔ x ∈ s.stack.take _
    rw [hon x (by omega), (hdt x).2]
    by_cases hm : x ∈ s.stack.drop (s.stack.idxOf a)
    · rw [if_pos hm]
      have := (hdt x).1.1 hm
      constructor
      · intro k; omega
      · intro k; omega
    · rw [if_neg hm, c.on x h1 h2]
      have : ¬ (x ∈ s.stack ∧ nthZ s.idx a ≤ nthZ s.idx x) := fun k => hm ((hdt x).1.2 k)
      constructor
      · intro k
        by_cases hl : nthZ s.idx x < nthZ s.idx a
        · exact ⟨k, hl⟩
        · exact absurd ⟨k, by omega⟩ this
      · intro k; exact k.1
  · rcases c.all x h1 h2 hx with hm | ⟨d, hd, hm⟩
    · by_cases hl : nthZ s.idx x < nthZ s.idx a
      · exact .inl ((hdt x).2.2 ⟨hm, hl⟩)
      · exact .inr ⟨_, List.mem_append.2 (.inr (List.mem_singleton.2 rfl)), (sortZ_mem _ x).2 ((hdt x).1.2 ⟨hm, by omega⟩)⟩
    · exact .inr ⟨d, List.mem_append.2 (.inl hd), hm⟩
  · rcases List.mem_append.1 hd with hd | hd
    · obtain ⟨o1, o2, o3, o4⟩ := c.outv d hd x hx
      exact ⟨o1, o2, o3, fun k => o4 (List.mem_of_mem_take k)⟩
    · rw [List.mem_singleton] at hd
      subst hd
      have hx := (hdt x).1.1 ((sortZ_mem _ x).1 hx)
      obtain ⟨v1, v2, v3⟩ := h.vis x hx.1
      refine ⟨v1, v2, v3, fun k => ?_⟩
      have := ((hdt x).2.1 k).2
      omega
  · rw [List.pairwise_append]
    refine ⟨c.dis, by simp, fun d hd e he x hx hx2 => ?_⟩
    rw [List.mem_singleton] at he
    subst he
    have := (hdt x).1.1 ((sortZ_mem _ x).1 hx2)
    exact (c.outv d hd x hx).2.2.2 this.1
  · rcases List.mem_append.1 hd with hd | hd
    · exact c.inc d hd
    · rw [List.mem_singleton] at hd
      subst hd
      refine ⟨fun e => ?_, sortZ_lt hnd⟩
      have : a ∈ sortZ (s.stack.drop (s.stack.idxOf a)) := (sortZ_mem _ a).2 ((hdt a).1.2 ⟨ha, Int.le_refl _⟩)
      rw [e] at this; cases this
  · rcases List.mem_append.1 hd with hd | hd
    · exact c.scc d hd x hx y hy
    · rw [List.mem_singleton] at hd
      subst hd
      have hx := (hdt x).1.1 ((sortZ_mem _ x).1 hx)
      have hy := (hdt y).1.1 ((sortZ_mem _ y).1 hy)
      exact (rto x hx.1 hx.2).trans (rfr y hy.1 hy.2)
  · rw [List.getElem?_append] at hd
    by_cases hi : i < s.out.length
    · rw [if_pos hi] at hd
      obtain ⟨j, hj, e, he, hy⟩ := c.cl i d hd x hx y hy
      refine ⟨j, hj, e, ?_, hy⟩
      rw [List.getElem?_append, if_pos (by omega)]; exact he
    · rw [if_neg hi] at hd
      have hi2 : i = s.out.length := by
        have := (List.getElem?_eq_some_iff.1 hd).1
        simp at this; omega
      subst hi2
      have : d = sortZ (s.stack.drop (s.stack.idxOf a)) := by simpa using hd.symm
      subst this
      have hx := (hdt x).1.1 ((sortZ_mem _ x).1 hx)
      obtain ⟨⟨y1, y2⟩, y3, y4⟩ := ed x hx.1 hx.2 y hy
      rcases c.all y y1 y2 y3 with hm | ⟨e, he, hm⟩
      · refine ⟨s.out.length, Nat.le_refl _, _, ?_, (sortZ_mem _ y).2 ((hdt y).1.2 ⟨hm, y4 hm⟩)⟩
        rw [List.getElem?_append, if_neg (by omega), Nat.sub_self]; rfl
      · obtain ⟨j, hj⟩ := List.getElem?_of_mem he
        have hjl := (List.getElem?_eq_some_iff.1 hj).1
        refine ⟨j, by omega, e, ?_, hm⟩
        rw [List.getElem?_append, if_pos hjl]; exact hj
/-- All of a frame's part of the stack reaches its atom, if nothing of it reaches below. -/
theorem seg_to {g : List (List Int)} {s : TS} {hi a : Int} {m : Nat} (p : SegP g s hi a m) (he : nthZ s.low a = nthZ s.idx a) (ho : s.stack.Pairwise fun x y => nthZ s.idx x < nthZ s.idx y) :
    ∀ (n : Nat) (x : Int), x ∈ s.stack → nthZ s.idx a ≤ nthZ s.idx x → nthZ s.idx x < hi → (nthZ s.idx x - nthZ s.idx a).toNat ≤ n → Rch g x a := by
  intro n
  induction n with
  | zero =>
    intro x hx h1 h2 h3
    have e : x = a := by
      have : nthZ s.idx x = nthZ s.idx a := by omega
      have hinj := ho
      exact Classical.byContradiction fun hne => by
        obtain ⟨y, hy, e1, -, l⟩ := p.blk x hx h1 h2 hne
        omega
    subst e; exact .refl _
  | succ n ih =>
    intro x hx h1 h2 h3
    by_cases e : x = a
    · subst e; exact .refl _
    · obtain ⟨y, hy, e1, r, l⟩ := p.blk x hx h1 h2 e
      exact r.trans (ih y hy (by omega) (by omega) (by omega))
/-- The pop. -/
theorem pop_co {g : List (List Int)} (hg : GOk g) {s : TS} {a : Int} {k : Nat} {rest : List (Int × Nat)} (h : TVis g s a k rest) (c : TCo g s) (hp : SegP g s (s.cnt + 1) a k) (hr : SegR g s (nthZ s.idx a) a rest) (hb : (rowZ g a)[k]? = none) :
    TCo g (tComp (tUp s a rest) a) ∧ HeadI g (tComp (tUp s a rest) a) := by
  have hk : (rowZ g a).length ≤ k := List.getElem?_eq_none_iff.1 hb
  have ha := h.seen (a, k) (List.mem_cons_self ..)
  obtain ⟨a1, a2, -⟩ := h.call (a, k) (List.mem_cons_self ..)
  simp only at a1 a2 ha
  have hsv : ∀ x ∈ s.stack, nthZ s.idx x ≠ 0 := fun x hx => (h.vis x hx).2.2
  have hbd : ∀ x ∈ s.stack, nthZ s.idx x < s.cnt + 1 := fun x hx => by have := c.bd x hx; omega
  have hown : ∀ y ∈ rowZ g a, nthZ s.idx y ≠ 0 ∧ (y ∈ s.stack → nthZ s.low a ≤ nthZ s.idx y) := fun y hy => by
    obtain ⟨i, hi⟩ := List.getElem?_of_mem hy
    exact hp.own i y (by have := (List.getElem?_eq_some_iff.1 hi).1; omega) hi
  have hrow : ∀ x ∈ s.stack, nthZ s.idx a ≤ nthZ s.idx x → ∀ y ∈ rowZ g x, (1 ≤ y ∧ y < (g.length : Int)) ∧ nthZ s.idx y ≠ 0 ∧ (y ∈ s.stack → nthZ s.low a ≤ nthZ s.idx y) := fun x hx hl y hy => by
    refine ⟨hg.ent x y hy, ?_⟩
    by_cases e : x = a
    · subst e; exact hown y hy
    · exact hp.edg x hx hl (hbd x hx) e y hy
  have hu := tUp_ok h
  -- the low of a is as it was
  have hcase : ∀ s2 : TS, s2 = tUp s a rest → s2.stack = s.stack ∧ s2.idx = s.idx ∧ s2.on = s.on ∧ s2.out = s.out ∧ s2.cnt = s.cnt ∧ s2.calls = rest ∧ nthZ s2.low a = nthZ s.low a := by
    rintro s2 rfl
    cases rest with
    | nil => exact ⟨rfl, rfl, rfl, rfl, rfl, rfl, rfl⟩
    | cons f r =>
      obtain ⟨u, j⟩ := f
      refine ⟨rfl, rfl, rfl, rfl, rfl, rfl, ?_⟩
      obtain ⟨⟨i, -, -, hpu⟩, -⟩ := hr
      obtain ⟨u1, u2, -⟩ := h.call (u, j) (by simp)
      simp only at u1 u2
      show nthZ (updZ s.low u _) a = _
      rw [nthZ_upd _ _ _ _ (by omega) (by omega) (by have := h.ll; omega), if_neg fun e => by have := hpu.lt; rw [e] at this; omega]
  obtain ⟨q1, q2, q3, q4, q5, q6, q7⟩ := hcase _ rfl
  have c2 : TCo g (tUp s a rest) := by
    cases rest with
    | nil => exact c.of_low [] s.low
    | cons f r => exact c.of_low (f :: r) _
  by_cases he : nthZ s.low a = nthZ s.idx a
  · have hcc := comp_co (a := a) hu.1 c2 (by rw [q1]; exact hp.mem) (by rw [q7, q2]; exact he)
      (fun x hx hl => by rw [q1] at hx; rw [q2] at hl; exact seg_to hp he c.ord _ x hx hl (hbd x hx) (Nat.le_refl _))
      (fun x hx hl => by rw [q1] at hx; rw [q2] at hl; exact hp.up x hx hl (hbd x hx))
      (fun x hx hl y hy => by
        rw [q1] at hx ⊢; rw [q2] at hl ⊢
        have := hrow x hx hl y hy
        exact ⟨this.1, this.2.1, fun hm => by have := this.2.2 hm; omega⟩)
    refine ⟨hcc.1, ?_⟩
    have hst := hcc.2
    rw [q1, q2] at hst
    have he' : nthZ (tUp s a rest).low a = nthZ (tUp s a rest).idx a := by rw [q7, q2]; exact he
    have hi2 : (tComp (tUp s a rest) a).idx = s.idx := by unfold tComp; rw [if_pos he']; exact q2
    have hl2 : (tComp (tUp s a rest) a).low = (tUp s a rest).low := by unfold tComp; rw [if_pos he']
    have hc2 : (tComp (tUp s a rest) a).calls = rest := by unfold tComp; rw [if_pos he']; exact q6
    have hn2 : (tComp (tUp s a rest) a).cnt = s.cnt := by unfold tComp; rw [if_pos he']; exact q5
    unfold HeadI
    rw [hc2]
    cases rest with
    | nil =>
      show (tComp (tUp s a []) a).stack = []
      refine List.eq_nil_iff_forall_not_mem.2 fun x hx => ?_
      have := (hst x).1 hx
      have := hr x this.1
      omega
    | cons f r =>
      obtain ⟨u, j⟩ := f
      obtain ⟨⟨i, e, hb2, hpu⟩, hr2⟩ := hr
      obtain ⟨u1, u2, -⟩ := h.call (u, j) (by simp)
      simp only at u1 u2
      have hlu : nthZ (tComp (tUp s a ((u, j) :: r)) a).low u = nthZ s.low u := by
        rw [hl2]
        show nthZ (updZ s.low u (min (nthZ s.low u) (nthZ s.low a))) u = _
        rw [nthZ_upd _ _ _ _ (by omega) (by omega) (by have := h.ll; omega), if_pos rfl]
        have := hpu.low; have := hpu.lt; omega
      have hT : Trn s (tComp (tUp s a ((u, j) :: r)) a) (nthZ s.idx a) := by
        refine ⟨fun x hx hl => (hst x).2 ⟨hx, hl⟩, fun x hx _ => ((hst x).1 hx).1, fun x hx _ => ((hst x).1 hx).1, fun x _ => by rw [hi2], fun x hx hl => ?_⟩
        by_cases ex : x = u
        · subst ex; exact hlu
        · rw [hl2]
          show nthZ (updZ s.low u _) x = _
          rw [nthZ_upd _ _ _ _ (by omega) (by have := (h.vis x hx).1; omega) (by have := h.ll; omega), if_neg fun k => ex k.symm]
      have p2 := hpu.trn hsv hT
      refine .inr ⟨by rw [hi2]; exact h.seen (u, j) (by simp), ⟨p2.mem, ?_, p2.low, p2.at_, fun x hx l1 _ => ?_, fun x hx l1 _ hn => ?_, fun x hx l1 _ hn => ?_, fun i' y hi' hy => ?_⟩, ?_⟩
      · rw [hi2, hn2]; have := hpu.lt; have := hbd a hp.mem; omega
      · exact p2.up x hx l1 (by rw [hi2]; exact ((hst x).1 hx).2)
      · exact p2.blk x hx l1 (by rw [hi2]; exact ((hst x).1 hx).2) hn
      · exact p2.edg x hx l1 (by rw [hi2]; exact ((hst x).1 hx).2) hn
      · by_cases ei : i' = i
        · subst ei
          rw [hb2] at hy; cases hy
          rw [hi2]
          exact ⟨ha, fun hm => by have := ((hst a).1 hm).2; omega⟩
        · exact p2.own i' y (by omega) hy
      · rw [hi2]
        exact SegR.trn hsv hr2 (hT.less (by have := hpu.lt; omega))
  · have hnc : tComp (tUp s a rest) a = tUp s a rest := by unfold tComp; rw [if_neg (by rw [q7, q2]; exact he)]
    rw [hnc]
    refine ⟨c2, ?_⟩
    have hlt : nthZ s.low a < nthZ s.idx a := by have := hp.low; omega
    obtain ⟨y0, hy0, ey0, ry0⟩ := hp.at_
    unfold HeadI
    rw [q6]
    cases rest with
    | nil =>
      exfalso
      have := hr y0 hy0
      omega
    | cons f r =>
      obtain ⟨u, j⟩ := f
      obtain ⟨⟨i, e, hb2, hpu⟩, hr2⟩ := hr
      obtain ⟨u1, u2, -⟩ := h.call (u, j) (by simp)
      simp only at u1 u2
      have hlo : ∀ x, 0 ≤ x → nthZ (tUp s a ((u, j) :: r)).low x = if u = x then min (nthZ s.low u) (nthZ s.low a) else nthZ s.low x := fun x hx => nthZ_upd _ _ _ _ (by omega) hx (by have := h.ll; omega)
      have hlu := hlo u (by omega)
      rw [if_pos rfl] at hlu
      have m1 : min (nthZ s.low u) (nthZ s.low a) ≤ nthZ s.low u := Int.min_le_left _ _
      have m2 : min (nthZ s.low u) (nthZ s.low a) ≤ nthZ s.low a := Int.min_le_right _ _
      have hua := hpu.lt
      have hru : Rch g u a := .edge (List.mem_of_getElem? hb2)
      refine .inr ⟨h.seen (u, j) (by simp), ⟨hpu.mem, hbd u hpu.mem, ?_, ?_, fun x hx l1 _ => ?_, fun x hx l1 _ hn => ?_, fun x hx l1 _ hn y hy => ?_, fun i' y hi' hy => ?_⟩, ?_⟩
      · show nthZ (tUp s a ((u, j) :: r)).low u ≤ nthZ s.idx u
        rw [hlu]; have := hpu.low; omega
      · show ∃ y ∈ s.stack, nthZ s.idx y = nthZ (tUp s a ((u, j) :: r)).low u ∧ Rch g u y
        rw [hlu]
        by_cases el : nthZ s.low u ≤ nthZ s.low a
        · obtain ⟨y, hy, e1, r1⟩ := hpu.at_
          exact ⟨y, hy, by rw [e1]; omega, r1⟩
        · exact ⟨y0, hy0, by rw [ey0]; omega, hru.trans ry0⟩
      · by_cases lx : nthZ s.idx x < nthZ s.idx a
        · exact hpu.up x hx l1 lx
        · exact hru.trans (hp.up x hx (by omega) (hbd x hx))
      · show ∃ y ∈ s.stack, nthZ s.idx y < nthZ s.idx x ∧ Rch g x y ∧ nthZ (tUp s a ((u, j) :: r)).low u ≤ nthZ s.idx y
        rw [hlu]
        by_cases lx : nthZ s.idx x < nthZ s.idx a
        · obtain ⟨y, hy, e1, r1, l⟩ := hpu.blk x hx l1 lx hn
          exact ⟨y, hy, e1, r1, by omega⟩
        · by_cases ex : x = a
          · subst ex
            exact ⟨y0, hy0, by rw [ey0]; exact hlt, ry0, by rw [ey0]; exact m2⟩
          · obtain ⟨y, hy, e1, r1, l⟩ := hp.blk x hx (by omega) (hbd x hx) ex
            exact ⟨y, hy, e1, r1, by omega⟩
      · show nthZ s.idx y ≠ 0 ∧ (y ∈ s.stack → nthZ (tUp s a ((u, j) :: r)).low u ≤ nthZ s.idx y)
        rw [hlu]
        by_cases lx : nthZ s.idx x < nthZ s.idx a
        · obtain ⟨w1, w2⟩ := hpu.edg x hx l1 lx hn y hy
          exact ⟨w1, fun hm => by have := w2 hm; omega⟩
        · obtain ⟨-, w1, w2⟩ := hrow x hx (by omega) y hy
          exact ⟨w1, fun hm => by have := w2 hm; omega⟩
      · show nthZ s.idx y ≠ 0 ∧ (y ∈ s.stack → nthZ (tUp s a ((u, j) :: r)).low u ≤ nthZ s.idx y)
        rw [hlu]
        by_cases ei : i' = i
        · subst ei
          rw [hb2] at hy; cases hy
          exact ⟨ha, fun _ => by omega⟩
        · obtain ⟨w1, w2⟩ := hpu.own i' y (by omega) hy
          exact ⟨w1, fun hm => by have := w2 hm; omega⟩
      · refine SegR.trn (s := s) hsv hr2 ⟨fun x hx _ => hx, fun x hx _ => hx, fun x hx _ => hx, fun x _ => rfl, fun x hx hl => ?_⟩
        rw [hlo x (by have := (h.vis x hx).1; omega), if_neg fun k => by subst k; exact absurd hl (Int.lt_irrefl _)]
/-- Every round keeps what the search has found out. -/
theorem tStep_co {g : List (List Int)} (hg : GOk g) {s : TS} (h : TOk g s) (c : TCo g s) (hh : HeadI g s) : TCo g (tStep g s) ∧ HeadI g (tStep g s) := by
  unfold tStep
  match hs : s.calls with
  | [] => exact ⟨c, hh⟩
  | (a, k) :: rest =>
    have hv := tVisit_ok h hs
    obtain ⟨c1, p1, r1⟩ := visit_co h c hh hs
    simp only []
    cases hb : (rowZ g a)[k]? with
    | some b => exact next_co hg hv c1 p1 r1 hb
    | none => exact pop_co hg hv c1 p1 r1 hb
end Go.Proofs.Ytbfbkpoakmnlpaa

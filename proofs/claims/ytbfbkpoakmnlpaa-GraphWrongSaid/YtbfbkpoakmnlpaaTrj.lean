/- The search of graph.components, plain: its state, one round, what holds in every round and what gets less. -/
import Derived.Test.YtbfbkpoakmnlpaaBase
namespace Go.Proofs.Ytbfbkpoakmnlpaa
/-- The state of Tarjan's search: calls are listed with the top first. -/
structure TS where
  out : List (List Int)
  stack : List Int
  idx : List Int
  low : List Int
  on : List Int
  cnt : Int
  calls : List (Int × Nat)
def nthZ (l : List Int) (a : Int) : Int := l.getD a.toNat 0
def updZ (l : List Int) (a v : Int) : List Int := l.set a.toNat v
def rowZ (g : List (List Int)) (a : Int) : List Int := g.getD a.toNat []
def offAll : List Int → List Int → List Int
  | on, [] => on
  | on, b :: c => offAll (updZ on b 0) c
def sortZ (l : List Int) : List Int := l.mergeSort fun x y => decide (x ≤ y)
def tVisit (s : TS) (a : Int) (k : Nat) : TS :=
  if k = 0 ∧ nthZ s.idx a = 0 then { s with cnt := s.cnt + 1, idx := updZ s.idx a (s.cnt + 1), low := updZ s.low a (s.cnt + 1), on := updZ s.on a 1, stack := s.stack ++ [a] } else s
def tNext (s : TS) (a : Int) (k : Nat) (rest : List (Int × Nat)) (b : Int) : TS :=
  if nthZ s.idx b = 0 then { s with calls := (b, 0) :: (a, k + 1) :: rest }
  else if 0 < nthZ s.on b then { s with calls := (a, k + 1) :: rest, low := updZ s.low a (min (nthZ s.low a) (nthZ s.idx b)) }
  else { s with calls := (a, k + 1) :: rest }
def tUp (s : TS) (a : Int) : List (Int × Nat) → TS
  | [] => { s with calls := [] }
  | (u, k) :: r => { s with calls := (u, k) :: r, low := updZ s.low u (min (nthZ s.low u) (nthZ s.low a)) }
def tComp (s : TS) (a : Int) : TS :=
  if nthZ s.low a = nthZ s.idx a then
    { s with stack := s.stack.take (s.stack.idxOf a), on := offAll s.on (s.stack.drop (s.stack.idxOf a)), out := s.out ++ [sortZ (s.stack.drop (s.stack.idxOf a))] }
  else s
def tStep (g : List (List Int)) (s : TS) : TS :=
  match s.calls with
  | [] => s
  | (a, k) :: rest =>
    match (rowZ g a)[k]? with
    | some b => tNext (tVisit s a k) a k rest b
    | none => tComp (tUp (tVisit s a k) a rest) a
structure GOk (g : List (List Int)) : Prop where
  len : g.length ≤ 4001
  ent : ∀ a, ∀ b ∈ rowZ g a, 1 ≤ b ∧ b < (g.length : Int)
  deg : ∀ a, (rowZ g a).length ≤ 4001
def visN (l : List Int) : Nat := (l.filter fun v => decide (v ≠ 0)).length
def zerN (l : List Int) : Nat := (l.filter fun v => decide (v = 0)).length
structure TOk (g : List (List Int)) (s : TS) : Prop where
  li : s.idx.length = g.length
  ll : s.low.length = g.length
  lo : s.on.length = g.length
  call : ∀ f ∈ s.calls, 1 ≤ f.1 ∧ f.1 < (g.length : Int) ∧ f.2 ≤ (rowZ g f.1).length
  rest : ∀ f ∈ s.calls.tail, nthZ s.idx f.1 ≠ 0
  top : ∀ f, s.calls.head? = some f → f.2 ≠ 0 → nthZ s.idx f.1 ≠ 0
  sub : ((s.calls.map (·.1)).reverse.filter fun a => decide (nthZ s.idx a ≠ 0)).Sublist s.stack
  nd : s.stack.Nodup
  vis : ∀ a ∈ s.stack, 1 ≤ a ∧ a < (g.length : Int) ∧ nthZ s.idx a ≠ 0
  cnt : s.cnt = (visN s.idx : Int)
/-- The top frame's atom has been met. -/
structure TVis (g : List (List Int)) (s : TS) (a : Int) (k : Nat) (rest : List (Int × Nat)) : Prop where
  li : s.idx.length = g.length
  ll : s.low.length = g.length
  lo : s.on.length = g.length
  ca : s.calls = (a, k) :: rest
  call : ∀ f ∈ (a, k) :: rest, 1 ≤ f.1 ∧ f.1 < (g.length : Int) ∧ f.2 ≤ (rowZ g f.1).length
  seen : ∀ f ∈ (a, k) :: rest, nthZ s.idx f.1 ≠ 0
  sub : ((a :: rest.map (·.1)).reverse).Sublist s.stack
  nd : s.stack.Nodup
  vis : ∀ a ∈ s.stack, 1 ≤ a ∧ a < (g.length : Int) ∧ nthZ s.idx a ≠ 0
  cnt : s.cnt = (visN s.idx : Int)
theorem nthZ_upd (l : List Int) (a b v : Int) (ha : 0 ≤ a) (hb : 0 ≤ b) (hl : a < (l.length : Int)) : nthZ (updZ l a v) b = if a = b then v else nthZ l b := by
  unfold nthZ updZ
  rw [List.getD_eq_getElem?_getD, List.getElem?_set]
  by_cases h : a = b
  · subst h
    rw [if_pos rfl, if_pos rfl, if_pos (by omega)]; rfl
  · rw [if_neg h, if_neg (by omega), List.getD_eq_getElem?_getD]
theorem updZ_len (l : List Int) (a v : Int) : (updZ l a v).length = l.length := by unfold updZ; simp
theorem visN_set : ∀ (l : List Int) (i : Nat) (v : Int), i < l.length → l.getD i 0 = 0 → v ≠ 0 → visN (l.set i v) = visN l + 1 ∧ zerN (l.set i v) + 1 = zerN l
  | [], i, v, h, _, _ => by simp at h
  | x :: t, 0, v, h, h0, hv => by
    have : x = 0 := by simpa using h0
    subst this
    simp [visN, zerN, hv]
  | x :: t, i + 1, v, h, h0, hv => by
    have ih := visN_set t i v (by simpa using h) (by simpa using h0) hv
    unfold visN zerN at ih ⊢
    by_cases hx : x = 0 <;> simp [hx] at ih ⊢ <;> omega
theorem visN_le (l : List Int) : visN l ≤ l.length := List.length_filter_le _ _
theorem tVisit_ok {g : List (List Int)} {s : TS} {a : Int} {k : Nat} {rest : List (Int × Nat)} (h : TOk g s) (hc : s.calls = (a, k) :: rest) : TVis g (tVisit s a k) a k rest := by
  have hcall := h.call
  have hrest := h.rest
  have htop := h.top (a, k) (by rw [hc]; rfl)
  have hsub := h.sub
  rw [hc] at hcall hrest hsub
  simp only [List.tail_cons] at hrest
  obtain ⟨a1, a2, a3⟩ := hcall (a, k) (List.mem_cons_self ..)
  simp only at a1 a2 a3
  have hrf : (rest.map (·.1)).reverse.filter (fun a => decide (nthZ s.idx a ≠ 0)) = (rest.map (·.1)).reverse := List.filter_eq_self.2 fun x hx => by
    rw [List.mem_reverse] at hx
    obtain ⟨f, hf, rfl⟩ := List.mem_map.1 hx
    exact decide_eq_true (hrest f hf)
  rw [List.map_cons, List.reverse_cons, List.filter_append, hrf] at hsub
  unfold tVisit
  by_cases hv : k = 0 ∧ nthZ s.idx a = 0
  · rw [if_pos hv]
    obtain ⟨-, hv⟩ := hv
    have hne : ∀ x, nthZ s.idx x ≠ 0 → a ≠ x := fun x hx e => hx (e ▸ hv)
    have hcn : s.cnt + 1 ≠ 0 := by have := h.cnt; omega
    have hset := visN_set s.idx a.toNat (s.cnt + 1) (by have := h.li; omega) hv hcn
    have hup : ∀ x, 0 ≤ x → nthZ (updZ s.idx a (s.cnt + 1)) x = if a = x then s.cnt + 1 else nthZ s.idx x := fun x hx => nthZ_upd _ _ _ _ (by omega) hx (by have := h.li; omega)
    refine ⟨by rw [updZ_len]; exact h.li, by rw [updZ_len]; exact h.ll, by rw [updZ_len]; exact h.lo, hc, hcall, fun f hf => ?_, ?_, ?_, fun x hx => ?_, ?_⟩
    · have := hcall f hf
      rw [hup _ (by omega)]
      rcases List.mem_cons.1 hf with rfl | hf
      · rw [if_pos rfl]; exact hcn
      · rw [if_neg (hne _ (hrest f hf))]; exact hrest f hf
    · simp only [List.filter_cons, hv, ne_eq, not_true, decide_false, Bool.false_eq_true, if_false, List.filter_nil, List.append_nil] at hsub
      rw [List.reverse_cons]
      exact hsub.append (List.Sublist.refl _)
    · rw [List.nodup_append]
      exact ⟨h.nd, by simp, fun x hx y hy => by simp at hy; subst hy; exact fun e => hne x (h.vis x hx).2.2 e.symm⟩
    · rcases List.mem_append.1 hx with hx | hx
      · have := h.vis x hx
        refine ⟨this.1, this.2.1, ?_⟩
        rw [hup _ (by omega), if_neg (hne _ this.2.2)]; exact this.2.2
      · simp at hx; subst hx
        refine ⟨a1, a2, ?_⟩
        rw [hup _ (by omega), if_pos rfl]; exact hcn
    · show s.cnt + 1 = (visN (updZ s.idx a (s.cnt + 1)) : Int)
      unfold updZ
      rw [hset.1, h.cnt]; omega
  · rw [if_neg hv]
    have hv' : nthZ s.idx a ≠ 0 := fun e => by
      by_cases hk : k = 0
      · exact hv ⟨hk, e⟩
      · exact htop hk e
    refine ⟨h.li, h.ll, h.lo, hc, hcall, fun f hf => ?_, ?_, h.nd, h.vis, h.cnt⟩
    · rcases List.mem_cons.1 hf with rfl | hf
      · exact hv'
      · exact hrest f hf
    · have e : [a].filter (fun a => decide (nthZ s.idx a ≠ 0)) = [a] := by simp [hv']
      rw [e] at hsub
      rw [List.reverse_cons]; exact hsub
/-- How much is left to do. -/
def costF (g : List (List Int)) (idx : List Int) (f : Int × Nat) : Nat := if nthZ idx f.1 = 0 then 1 else 2 * ((rowZ g f.1).length - f.2) + 1
def tMeas (g : List (List Int)) (s : TS) : Nat := 8004 * zerN s.idx + (s.calls.map (costF g s.idx)).sum
theorem tVisit_meas {g : List (List Int)} (hg : GOk g) {s : TS} {a : Int} {k : Nat} {rest : List (Int × Nat)} (h : TOk g s) (hc : s.calls = (a, k) :: rest) : tMeas g (tVisit s a k) ≤ tMeas g s := by
  unfold tVisit
  by_cases hv : k = 0 ∧ nthZ s.idx a = 0
  · rw [if_pos hv]
    have hcall := h.call
    have hrest := h.rest
    rw [hc] at hcall hrest
    obtain ⟨a1, a2, a3⟩ := hcall (a, k) (List.mem_cons_self ..)
    simp only at a1 a2 a3
    have hcn : s.cnt + 1 ≠ 0 := by have := h.cnt; omega
    have hset := visN_set s.idx a.toNat (s.cnt + 1) (by have := h.li; omega) hv.2 hcn
    have hup : ∀ x, 0 ≤ x → nthZ (updZ s.idx a (s.cnt + 1)) x = if a = x then s.cnt + 1 else nthZ s.idx x := fun x hx => nthZ_upd _ _ _ _ (by omega) hx (by have := h.li; omega)
    unfold tMeas
    simp only [hc, List.map_cons, List.sum_cons]
    have e1 : rest.map (costF g (updZ s.idx a (s.cnt + 1))) = rest.map (costF g s.idx) := List.map_congr_left fun f hf => by
      unfold costF
      have := hcall f (List.mem_cons_of_mem _ hf)
      have hne : a ≠ f.1 := fun e => hrest f hf (by rw [← e]; exact hv.2)
      rw [hup _ (by omega), if_neg hne]
    have e2 : costF g (updZ s.idx a (s.cnt + 1)) (a, k) ≤ 8003 := by
      unfold costF
      have := hg.deg a
      split
      · omega
      · simp only []; omega
    have e3 : zerN (updZ s.idx a (s.cnt + 1)) + 1 = zerN s.idx := hset.2
    rw [e1]
    omega
  · rw [if_neg hv]; exact Nat.le_refl _
theorem tNext_ok {g : List (List Int)} (hg : GOk g) {s : TS} {a : Int} {k : Nat} {rest : List (Int × Nat)} (h : TVis g s a k rest) {b : Int} (hb : (rowZ g a)[k]? = some b) : TOk g (tNext s a k rest b) ∧ tMeas g (tNext s a k rest b) < tMeas g s := by
  obtain ⟨b1, b2⟩ := hg.ent a b (List.mem_of_getElem? hb)
  have hk : k < (rowZ g a).length := (List.getElem?_eq_some_iff.1 hb).1
  have ha := h.seen (a, k) (List.mem_cons_self ..)
  have hrf : (rest.map (·.1)).reverse.filter (fun a => decide (nthZ s.idx a ≠ 0)) = (rest.map (·.1)).reverse := List.filter_eq_self.2 fun x hx => by
    rw [List.mem_reverse] at hx
    obtain ⟨f, hf, rfl⟩ := List.mem_map.1 hx
    exact decide_eq_true (h.seen f (List.mem_cons_of_mem _ hf))
  have hca := h.call
  have c1 : ∀ f ∈ (a, k + 1) :: rest, 1 ≤ f.1 ∧ f.1 < (g.length : Int) ∧ f.2 ≤ (rowZ g f.1).length := fun f hf => by
    rcases List.mem_cons.1 hf with rfl | hf
    · have := hca (a, k) (List.mem_cons_self ..)
      exact ⟨this.1, this.2.1, hk⟩
    · exact hca f (List.mem_cons_of_mem _ hf)
  have c2 : ∀ f ∈ (a, k + 1) :: rest, nthZ s.idx f.1 ≠ 0 := fun f hf => by
    rcases List.mem_cons.1 hf with rfl | hf
    · exact ha
    · exact h.seen f (List.mem_cons_of_mem _ hf)
  have s1 : ((((a, k + 1) :: rest).map (·.1)).reverse.filter fun a => decide (nthZ s.idx a ≠ 0)).Sublist s.stack := by
    rw [List.filter_eq_self.2 fun x hx => by
      rw [List.mem_reverse] at hx
      obtain ⟨f, hf, rfl⟩ := List.mem_map.1 hx
      exact decide_eq_true (c2 f hf)]
    exact h.sub
  have ca : costF g s.idx (a, k) = 2 * ((rowZ g a).length - k) + 1 := by unfold costF; rw [if_neg ha]
  have ca' : costF g s.idx (a, k + 1) = 2 * ((rowZ g a).length - (k + 1)) + 1 := by unfold costF; rw [if_neg ha]
  unfold tNext
  by_cases h1 : nthZ s.idx b = 0
  · rw [if_pos h1]
    refine ⟨⟨h.li, h.ll, h.lo, fun f hf => ?_, c2, fun f hf h0 => ?_, ?_, h.nd, h.vis, h.cnt⟩, ?_⟩
    · rcases List.mem_cons.1 hf with rfl | hf
      · exact ⟨b1, b2, Nat.zero_le _⟩
      · exact c1 f hf
    · injection hf with hf; subst hf; exact absurd rfl h0
    · rw [List.map_cons, List.reverse_cons, List.filter_append]
      have e : [b].filter (fun a => decide (nthZ s.idx a ≠ 0)) = [] := by simp [h1]
      show (List.filter _ _ ++ [b].filter (fun a => decide (nthZ s.idx a ≠ 0))).Sublist s.stack
      rw [e, List.append_nil]; exact s1
    · unfold tMeas
      have e : costF g s.idx (b, 0) = 1 := by unfold costF; rw [if_pos h1]
      simp only [h.ca, List.map_cons, List.sum_cons, ca, ca', e]
      omega
  · rw [if_neg h1]
    by_cases h2 : 0 < nthZ s.on b
    · rw [if_pos h2]
      refine ⟨⟨h.li, by rw [updZ_len]; exact h.ll, h.lo, c1, fun f hf => h.seen f (List.mem_cons_of_mem _ hf), fun f hf _ => ?_, s1, h.nd, h.vis, h.cnt⟩, ?_⟩
      · injection hf with hf; subst hf; exact ha
      · unfold tMeas
        simp only [h.ca, List.map_cons, List.sum_cons, ca, ca']
        omega
    · rw [if_neg h2]
      refine ⟨⟨h.li, h.ll, h.lo, c1, fun f hf => h.seen f (List.mem_cons_of_mem _ hf), fun f hf _ => ?_, s1, h.nd, h.vis, h.cnt⟩, ?_⟩
      · injection hf with hf; subst hf; exact ha
      · unfold tMeas
        simp only [h.ca, List.map_cons, List.sum_cons, ca, ca']
        omega
theorem offAll_len : ∀ (c on : List Int), (offAll on c).length = on.length
  | [], on => rfl
  | b :: c, on => by rw [offAll, offAll_len c, updZ_len]
/-- After the pop: the top frame is gone; its atom lies on the stack above the others. -/
theorem tUp_ok {g : List (List Int)} {s : TS} {a : Int} {k : Nat} {rest : List (Int × Nat)} (h : TVis g s a k rest) : TOk g (tUp s a rest) ∧ tMeas g (tUp s a rest) < tMeas g s ∧ ((a :: (tUp s a rest).calls.map (·.1)).reverse).Sublist (tUp s a rest).stack ∧ (∀ f ∈ (tUp s a rest).calls, nthZ (tUp s a rest).idx f.1 ≠ 0) ∧ nthZ (tUp s a rest).idx a ≠ 0 := by
  have ha := h.seen (a, k) (List.mem_cons_self ..)
  have ca : 1 ≤ costF g s.idx (a, k) := by unfold costF; split <;> omega
  have hrf : (rest.map (·.1)).reverse.filter (fun a => decide (nthZ s.idx a ≠ 0)) = (rest.map (·.1)).reverse := List.filter_eq_self.2 fun x hx => by
    rw [List.mem_reverse] at hx
    obtain ⟨f, hf, rfl⟩ := List.mem_map.1 hx
    exact decide_eq_true (h.seen f (List.mem_cons_of_mem _ hf))
  have hsub := h.sub
  have hs2 : ((rest.map (·.1)).reverse).Sublist s.stack := by
    rw [List.reverse_cons] at hsub
    exact (List.sublist_append_left _ _).trans hsub
  have hr : ∀ f ∈ rest, nthZ s.idx f.1 ≠ 0 := fun f hf => h.seen f (List.mem_cons_of_mem _ hf)
  cases rest with
  | nil =>
    refine ⟨⟨h.li, h.ll, h.lo, fun f hf => (by cases hf), fun f hf => (by cases hf), fun f hf => (by cases hf), by simp [tUp], h.nd, h.vis, h.cnt⟩, ?_, hsub, fun f hf => (by cases hf), ha⟩
    unfold tMeas tUp
    simp only [h.ca, List.map_cons, List.sum_cons, List.map_nil, List.sum_nil]
    omega
  | cons u r =>
    obtain ⟨u, j⟩ := u
    refine ⟨⟨h.li, by unfold tUp; rw [updZ_len]; exact h.ll, h.lo, fun f hf => h.call f (List.mem_cons_of_mem _ hf), fun f hf => hr f (List.mem_cons_of_mem _ hf), fun f hf _ => ?_, ?_, h.nd, h.vis, h.cnt⟩, ?_, hsub, hr, ha⟩
    · injection hf with hf; subst hf; exact hr _ (List.mem_cons_self ..)
    · show (List.filter (fun a => decide (nthZ s.idx a ≠ 0)) ((((u, j) :: r).map (·.1)).reverse)).Sublist s.stack
      rw [hrf]; exact hs2
    · unfold tMeas tUp
      simp only [h.ca, List.map_cons, List.sum_cons]
      omega
theorem sub_take (st l : List Int) (a : Int) (hn : st.Nodup) (h : (l ++ [a]).Sublist st) : l.Sublist (st.take (st.idxOf a)) ∧ a ∈ st := by
  obtain ⟨r1, r2, rfl, h1, h2⟩ := List.append_sublist_iff.1 h
  have ha2 : a ∈ r2 := h2.subset (by simp)
  have ha1 : a ∉ r1 := fun h => (List.nodup_append.1 hn).2.2 a h a ha2 rfl
  refine ⟨?_, List.mem_append.2 (.inr ha2)⟩
  rw [List.idxOf_append, if_neg ha1, List.take_append]
  refine h1.trans ?_
  rw [List.take_of_length_le (by omega)]
  exact List.sublist_append_left _ _
theorem tComp_ok {g : List (List Int)} {s : TS} {a : Int} (h : TOk g s) (hs : ((a :: s.calls.map (·.1)).reverse).Sublist s.stack) (hv : ∀ f ∈ s.calls, nthZ s.idx f.1 ≠ 0) : TOk g (tComp s a) ∧ tMeas g (tComp s a) = tMeas g s := by
  unfold tComp
  by_cases h1 : nthZ s.low a = nthZ s.idx a
  · rw [if_pos h1]
    rw [List.reverse_cons] at hs
    have ht := sub_take _ _ _ h.nd hs
    refine ⟨⟨h.li, h.ll, by rw [offAll_len]; exact h.lo, h.call, h.rest, h.top, ?_, h.nd.sublist (List.take_sublist _ _), fun x hx => h.vis x (List.mem_of_mem_take hx), h.cnt⟩, rfl⟩
    rw [List.filter_eq_self.2 fun x hx => by
      rw [List.mem_reverse] at hx
      obtain ⟨f, hf, rfl⟩ := List.mem_map.1 hx
      exact decide_eq_true (hv f hf)]
    exact ht.1
  · rw [if_neg h1]; exact ⟨h, rfl⟩
theorem tStep_ok {g : List (List Int)} (hg : GOk g) {s : TS} (h : TOk g s) (hc : s.calls ≠ []) : TOk g (tStep g s) ∧ tMeas g (tStep g s) < tMeas g s := by
  unfold tStep
  match hs : s.calls, hc with
  | (a, k) :: rest, _ =>
    have hv := tVisit_ok h hs
    have hm := tVisit_meas hg h hs
    simp only []
    cases hb : (rowZ g a)[k]? with
    | some b =>
      have := tNext_ok hg hv hb
      exact ⟨this.1, by simp only []; omega⟩
    | none =>
      have hu := tUp_ok hv
      have := tComp_ok hu.1 hu.2.2.1 hu.2.2.2.1
      exact ⟨this.1, by simp only []; omega⟩
def tIter (g : List (List Int)) : Nat → TS → TS
  | 0, s => s
  | n + 1, s => tIter g n (tStep g s)
theorem tIter_done {g : List (List Int)} : ∀ (n : Nat) {s : TS}, s.calls = [] → tIter g n s = s
  | 0, s, _ => rfl
  | n + 1, s, h => by
    have : tStep g s = s := by unfold tStep; rw [h]
    rw [tIter, this, tIter_done n h]
theorem tIter_add {g : List (List Int)} : ∀ (m n : Nat) (s : TS), tIter g (m + n) s = tIter g n (tIter g m s)
  | 0, n, s => by rw [Nat.zero_add]; rfl
  | m + 1, n, s => by rw [Nat.add_right_comm, tIter, tIter_add m n, tIter]
/-- Two ends of the search are the same. -/
theorem tIter_same {g : List (List Int)} {m n : Nat} {s : TS} (h1 : (tIter g m s).calls = []) (h2 : (tIter g n s).calls = []) : tIter g m s = tIter g n s := by
  rcases Nat.le_total m n with h | h
  · rw [show n = m + (n - m) by omega, tIter_add, tIter_done _ h1]
  · rw [show m = n + (m - n) by omega, tIter_add, tIter_done _ h2]
end Go.Proofs.Ytbfbkpoakmnlpaa

/- The search of graph.components, plain: from every atom that is not met; the list of the comps is right (comp_ok, CompOk.same, CompOk.path). -/
import Derived.Test.YtbfbkpoakmnlpaaTrc
namespace Go.Proofs.Ytbfbkpoakmnlpaa
theorem tIter_all {g : List (List Int)} (hg : GOk g) : ∀ (n : Nat) {s : TS}, TOk g s → TCo g s → HeadI g s → TOk g (tIter g n s) ∧ TCo g (tIter g n s) ∧ HeadI g (tIter g n s)
  | 0, s, h, c, hh => ⟨h, c, hh⟩
  | n + 1, s, h, c, hh => by
    have h1 := tStep_co hg h c hh
    have h2 : TOk g (tStep g s) := by
      by_cases hc : s.calls = []
      · have : tStep g s = s := by unfold tStep; rw [hc]
        rw [this]; exact h
      · exact (tStep_ok hg h hc).1
    exact tIter_all hg n h2 h1.1 h1.2
theorem tIter_end {g : List (List Int)} (hg : GOk g) : ∀ (n : Nat) {s : TS}, TOk g s → tMeas g s ≤ n → (tIter g n s).calls = []
  | 0, s, h, hm => by
    by_cases hc : s.calls = []
    · exact hc
    · have := (tStep_ok hg h hc).2; omega
  | n + 1, s, h, hm => by
    by_cases hc : s.calls = []
    · rw [tIter_done _ hc]; exact hc
    · have h1 := tStep_ok hg h hc
      exact tIter_end hg n h1.1 (by omega)
theorem tVisit_seen {s : TS} (hc : 0 ≤ s.cnt) (a : Int) (k : Nat) {x : Int} (hx : nthZ s.idx x ≠ 0) : nthZ (tVisit s a k).idx x ≠ 0 := by
  unfold tVisit
  by_cases hv : k = 0 ∧ nthZ s.idx a = 0
  · rw [if_pos hv]
    show nthZ (updZ s.idx a (s.cnt + 1)) x ≠ 0
    unfold nthZ updZ
    rw [List.getD_eq_getElem?_getD, List.getElem?_set]
    by_cases e : a.toNat = x.toNat
    · rw [if_pos e]
      split
      · simp; omega
      · rename_i h
        exfalso
        apply hx
        unfold nthZ
        rw [List.getD_eq_getElem?_getD, List.getElem?_eq_none (by omega)]; rfl
    · rw [if_neg e, ← List.getD_eq_getElem?_getD]; exact hx
  · rw [if_neg hv]; exact hx
theorem tStep_idx (g : List (List Int)) {s : TS} {a : Int} {k : Nat} {rest : List (Int × Nat)} (hc : s.calls = (a, k) :: rest) : (tStep g s).idx = (tVisit s a k).idx := by
  unfold tStep
  rw [hc]
  simp only []
  have h1 : ∀ (s : TS) (a : Int), (tComp s a).idx = s.idx := fun s a => by unfold tComp; split <;> rfl
  have h2 : ∀ (s : TS) (a : Int) (r : List (Int × Nat)), (tUp s a r).idx = s.idx := fun s a r => by cases r <;> rfl
  have h3 : ∀ (s : TS) (a : Int) (k : Nat) (r : List (Int × Nat)) (b : Int), (tNext s a k r b).idx = s.idx := fun s a k r b => by
    unfold tNext
    split
    · rfl
    · split <;> rfl
  cases (rowZ g a)[k]? with
  | some b => exact h3 _ _ _ _ _
  | none => simp only []; rw [h1, h2]
theorem tStep_seen {g : List (List Int)} {s : TS} (h : TOk g s) {x : Int} (hx : nthZ s.idx x ≠ 0) : nthZ (tStep g s).idx x ≠ 0 := by
  match hc : s.calls with
  | [] =>
    have : tStep g s = s := by unfold tStep; rw [hc]
    rw [this]; exact hx
  | (a, k) :: rest =>
    rw [tStep_idx g hc]
    exact tVisit_seen (by have := h.cnt; omega) a k hx
theorem tIter_seen {g : List (List Int)} (hg : GOk g) : ∀ (n : Nat) {s : TS}, TOk g s → ∀ {x : Int}, nthZ s.idx x ≠ 0 → nthZ (tIter g n s).idx x ≠ 0
  | 0, s, h, x, hx => hx
  | n + 1, s, h, x, hx => by
    by_cases hc : s.calls = []
    · rw [tIter_done _ hc]; exact hx
    · exact tIter_seen hg n (tStep_ok hg h hc).1 (tStep_seen h hx)
/-- The search from one atom. -/
def tFrom (s : TS) (a : Int) : TS := { s with calls := [(a, 0)] }
def tSearch (g : List (List Int)) (s : TS) (a : Int) : TS := if nthZ s.idx a = 0 then tIter g (tMeas g (tFrom s a)) (tFrom s a) else s
structure TRoot (g : List (List Int)) (s : TS) : Prop where
  ok : TOk g s
  co : TCo g s
  calls : s.calls = []
  stack : s.stack = []
theorem from_ok {g : List (List Int)} {s : TS} (h : TRoot g s) {a : Int} (h1 : 1 ≤ a) (h2 : a < (g.length : Int)) (h0 : nthZ s.idx a = 0) : TOk g (tFrom s a) ∧ TCo g (tFrom s a) ∧ HeadI g (tFrom s a) := by
  refine ⟨⟨h.ok.li, h.ok.ll, h.ok.lo, fun f hf => ?_, fun f hf => (by cases hf), fun f hf hk => ?_, ?_, h.ok.nd, h.ok.vis, h.ok.cnt⟩, h.co.of_low _ s.low, .inl ⟨h0, rfl, fun x hx => ?_⟩⟩
  · have : f = (a, 0) := by simpa [tFrom] using hf
    subst this
    exact ⟨h1, h2, Nat.zero_le _⟩
  · have : f = (a, 0) := by simpa [tFrom] using hf.symm
    subst this
    exact absurd rfl hk
  · show ([a].reverse.filter fun a => decide (nthZ s.idx a ≠ 0)).Sublist s.stack
    simp [h0]
  · have hx : x ∈ s.stack := hx
    rw [h.stack] at hx; cases hx
theorem search_root {g : List (List Int)} (hg : GOk g) {s : TS} (h : TRoot g s) {a : Int} (h1 : 1 ≤ a) (h2 : a < (g.length : Int)) :
    TRoot g (tSearch g s a) ∧ nthZ (tSearch g s a).idx a ≠ 0 ∧ ∀ x, nthZ s.idx x ≠ 0 → nthZ (tSearch g s a).idx x ≠ 0 := by
  unfold tSearch
  by_cases h0 : nthZ s.idx a = 0
  · rw [if_pos h0]
    obtain ⟨k1, k2, k3⟩ := from_ok h h1 h2 h0
    have ha := tIter_all hg (tMeas g (tFrom s a)) k1 k2 k3
    have he := tIter_end hg _ k1 (Nat.le_refl (tMeas g (tFrom s a)))
    have hs : (tIter g (tMeas g (tFrom s a)) (tFrom s a)).stack = [] := by
      have := ha.2.2
      unfold HeadI at this
      rw [he] at this; exact this
    refine ⟨⟨ha.1, ha.2.1, he, hs⟩, ?_, fun x hx => tIter_seen hg _ k1 hx⟩
    have hm : 1 ≤ tMeas g (tFrom s a) := by
      have := (tStep_ok hg k1 (by simp [tFrom])).2; omega
    obtain ⟨n, hn⟩ : ∃ n, tMeas g (tFrom s a) = n + 1 := ⟨_, (Nat.succ_pred_eq_of_pos hm).symm⟩
    rw [hn, tIter]
    refine tIter_seen hg n (tStep_ok hg k1 (by simp [tFrom])).1 ?_
    rw [tStep_idx g (show (tFrom s a).calls = (a, 0) :: [] from rfl)]
    exact (tVisit_ok k1 rfl).seen (a, 0) (List.mem_cons_self ..)
  · rw [if_neg h0]
    exact ⟨h, h0, fun _ hx => hx⟩
def tInit (n : Nat) : TS := ⟨[], [], List.replicate n 0, List.replicate n 0, List.replicate n 0, 0, []⟩
theorem nth_rep (n : Nat) (x : Int) : nthZ (List.replicate n 0) x = 0 := by
  unfold nthZ
  rw [List.getD_eq_getElem?_getD, List.getElem?_replicate]
  split <;> rfl
theorem init_root (g : List (List Int)) : TRoot g (tInit g.length) := by
  have hv : visN (List.replicate g.length (0 : Int)) = 0 := by unfold visN; simp
  refine ⟨⟨by simp [tInit], by simp [tInit], by simp [tInit], fun f hf => (by cases hf), fun f hf => (by cases hf), fun f hf => (by cases hf), by simp [tInit], by simp [tInit], fun a ha => (by cases ha), ?_⟩,
    ⟨by simp [tInit], fun x hx => (by cases hx), fun x h1 h2 => ?_, fun x h1 h2 hx => ?_, fun c hc => (by cases hc), by simp [tInit], fun c hc => (by cases hc), fun c hc => (by cases hc), fun i c hc => ?_⟩, rfl, rfl⟩
  · show (0 : Int) = (visN (List.replicate g.length (0 : Int)) : Int)
    rw [hv]; rfl
  · show 0 < nthZ (List.replicate g.length 0) x ↔ x ∈ ([] : List Int)
    rw [nth_rep]; simp
  · exact absurd (nth_rep g.length x) hx
  · simp [tInit] at hc
def tRun (g : List (List Int)) (k : Nat) : TS := (List.range k).foldl (fun s (i : Nat) => tSearch g s ((i : Int) + 1)) (tInit g.length)
theorem tRun_succ (g : List (List Int)) (k : Nat) : tRun g (k + 1) = tSearch g (tRun g k) ((k : Int) + 1) := by
  unfold tRun; rw [List.range_succ, List.foldl_append]; rfl
theorem run_root {g : List (List Int)} (hg : GOk g) : ∀ k : Nat, k < g.length → TRoot g (tRun g k) ∧ ∀ x : Int, 1 ≤ x → x ≤ (k : Int) → nthZ (tRun g k).idx x ≠ 0
  | 0, _ => ⟨init_root g, fun x h1 h2 => by omega⟩
  | k + 1, hk => by
    have ih := run_root hg k (by omega)
    have h := search_root hg ih.1 (a := (k : Int) + 1) (by omega) (by omega)
    rw [tRun_succ]
    refine ⟨h.1, fun x h1 h2 => ?_⟩
    by_cases e : x = (k : Int) + 1
    · subst e; exact h.2.1
    · exact h.2.2 x (ih.2 x h1 (by omega))
/-- The comps of the graph: graph.components. -/
def compT (g : List (List Int)) : List (List Int) := (tRun g (g.length - 1)).out
/-- What the list of the comps is. -/
structure CompOk (g : List (List Int)) (cs : List (List Int)) : Prop where
  all : ∀ x : Int, 1 ≤ x → x < (g.length : Int) → ∃ c ∈ cs, x ∈ c
  rng : ∀ c ∈ cs, ∀ x ∈ c, 1 ≤ x ∧ x < (g.length : Int)
  dis : cs.Pairwise fun c d => ∀ x ∈ c, x ∉ d
  inc : ∀ c ∈ cs, c ≠ [] ∧ c.Pairwise (· < ·)
  scc : ∀ c ∈ cs, ∀ x ∈ c, ∀ y ∈ c, Rch g x y
  cl : ∀ (i : Nat) c, cs[i]? = some c → ∀ x ∈ c, ∀ y ∈ rowZ g x, ∃ j ≤ i, ∃ d, cs[j]? = some d ∧ y ∈ d
theorem comp_ok {g : List (List Int)} (hg : GOk g) (h1 : 1 ≤ g.length) : CompOk g (compT g) := by
  obtain ⟨h, hv⟩ := run_root hg (g.length - 1) (by omega)
  unfold compT
  refine ⟨fun x x1 x2 => ?_, fun c hc x hx => ?_, h.co.dis, h.co.inc, h.co.scc, h.co.cl⟩
  · rcases h.co.all x x1 x2 (hv x x1 (by omega)) with hm | hm
    · rw [h.stack] at hm; cases hm
    · exact hm
  · have := h.co.outv c hc x hx
    exact ⟨this.1, this.2.1⟩
/-- Along a path the comps come no later. -/
theorem CompOk.path {g cs : List (List Int)} (h : CompOk g cs) {x y : Int} (r : Rch g x y) : ∀ {i : Nat} {c : List Int}, cs[i]? = some c → x ∈ c → ∃ j ≤ i, ∃ d, cs[j]? = some d ∧ y ∈ d := by
  induction r with
  | refl a => exact fun {i c} hc hx => ⟨i, Nat.le_refl _, c, hc, hx⟩
  | step hb _ ih =>
    intro i c hc hx
    obtain ⟨j, hj, d, hd, hy⟩ := h.cl i c hc _ hx _ hb
    obtain ⟨k, hk, e, he, hz⟩ := ih hd hy
    exact ⟨k, by omega, e, he, hz⟩
theorem CompOk.uniq {g cs : List (List Int)} (h : CompOk g cs) {i j : Nat} {c d : List Int} {x : Int} (hc : cs[i]? = some c) (hd : cs[j]? = some d) (h1 : x ∈ c) (h2 : x ∈ d) : i = j := by
  rcases Nat.lt_trichotomy i j with hl | hl | hl
  · obtain ⟨hi, rfl⟩ := List.getElem?_eq_some_iff.1 hc
    obtain ⟨hj, rfl⟩ := List.getElem?_eq_some_iff.1 hd
    exact absurd h2 (List.pairwise_iff_getElem.1 h.dis i j hi hj hl x h1)
  · exact hl
  · obtain ⟨hi, rfl⟩ := List.getElem?_eq_some_iff.1 hc
    obtain ⟨hj, rfl⟩ := List.getElem?_eq_some_iff.1 hd
    exact absurd h1 (List.pairwise_iff_getElem.1 h.dis j i hj hi hl x h2)
/-- Two atoms lie in one comp exactly if they reach each other. -/
theorem CompOk.same {g cs : List (List Int)} (h : CompOk g cs) {i j : Nat} {c d : List Int} {x y : Int} (hc : cs[i]? = some c) (hd : cs[j]? = some d) (h1 : x ∈ c) (h2 : y ∈ d) : i = j ↔ Rch g x y ∧ Rch g y x := by
  constructor
  · rintro rfl
    rw [hc] at hd; cases hd
    have hm := List.mem_of_getElem? hc
    exact ⟨h.scc c hm x h1 y h2, h.scc c hm y h2 x h1⟩
  · rintro ⟨r1, r2⟩
    obtain ⟨k, hk, e, he, hy⟩ := h.path r1 hc h1
    have := h.uniq hd he h2 hy
    obtain ⟨l, hl, e2, he2, hx⟩ := h.path r2 hd h2
    have := h.uniq hc he2 h1 hx
    omega
end Go.Proofs.Ytbfbkpoakmnlpaa

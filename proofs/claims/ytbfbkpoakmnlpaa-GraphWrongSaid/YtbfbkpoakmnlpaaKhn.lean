/- The order of the comps, plain (graph.numbers, graph.sorted): numL_at, dec_spec, kStep_ok, kOrd_ok. -/
import Derived.Test.YtbfbkpoakmnlpaaTrf
namespace Go.Proofs.Ytbfbkpoakmnlpaa
/-- The numbers of the comps: graph.numbers. -/
def numFill (i : Int) (out : List Int) (c : List Int) : List Int := c.foldl (fun o a => updZ o a i) out
def numGo : List Int → Int → List (List Int) → List Int
  | out, _, [] => out
  | out, i, c :: r => numGo (numFill i out c) (i + 1) r
def numL (n : Nat) (cs : List (List Int)) : List Int := numGo (List.replicate (n + 1) 0) 0 cs
theorem numFill_len (i : Int) : ∀ (c out : List Int), (numFill i out c).length = out.length
  | [], out => rfl
  | a :: c, out => by
    show (numFill i (updZ out a i) c).length = _
    rw [numFill_len i c, updZ_len]
theorem numFill_nth (i : Int) : ∀ (c out : List Int) (x : Int), 0 ≤ x → (∀ a ∈ c, 0 ≤ a ∧ a < (out.length : Int)) → nthZ (numFill i out c) x = if x ∈ c then i else nthZ out x
  | [], out, x, _, _ => by simp [numFill]
  | a :: c, out, x, hx, h => by
    have ha := h a (List.mem_cons_self ..)
    show nthZ (numFill i (updZ out a i) c) x = _
    rw [numFill_nth i c _ x hx fun b hb => by rw [updZ_len]; exact h b (List.mem_cons_of_mem _ hb), nthZ_upd _ _ _ _ ha.1 hx ha.2]
    by_cases e : a = x
    · subst e; simp
    · have e' : ¬ x = a := fun k => e k.symm
      simp [e, e']
theorem numGo_len : ∀ (cs : List (List Int)) (out : List Int) (i : Int), (numGo out i cs).length = out.length
  | [], out, i => rfl
  | c :: r, out, i => by rw [numGo, numGo_len r, numFill_len]
theorem numGo_nth : ∀ (cs : List (List Int)) (out : List Int) (i : Int) (x : Int), 0 ≤ x → (∀ c ∈ cs, ∀ a ∈ c, 0 ≤ a ∧ a < (out.length : Int)) → cs.Pairwise (fun c d => ∀ x ∈ c, x ∉ d) →
    (∀ (j : Nat) c, cs[j]? = some c → x ∈ c → nthZ (numGo out i cs) x = i + j) ∧ ((∀ c ∈ cs, x ∉ c) → nthZ (numGo out i cs) x = nthZ out x)
  | [], out, i, x, _, _, _ => ⟨fun j c h => by simp at h, fun _ => rfl⟩
  | c :: r, out, i, x, hx, h, hd => by
    rw [List.pairwise_cons] at hd
    have ih := numGo_nth r (numFill i out c) (i + 1) x hx (fun d hd a ha => by rw [numFill_len]; exact h d (List.mem_cons_of_mem _ hd) a ha) hd.2
    have hf := numFill_nth i c out x hx fun a ha => h c (List.mem_cons_self ..) a ha
    refine ⟨fun j d hj hm => ?_, fun hm => ?_⟩
    · cases j with
      | zero =>
        have : c = d := by simpa using hj
        subst this
        rw [numGo, ih.2 fun e he => hd.1 e he x hm, hf, if_pos hm]; omega
      | succ j =>
        rw [numGo, ih.1 j d (by simpa using hj) hm]; omega
    · rw [numGo, ih.2 fun e he => hm e (List.mem_cons_of_mem _ he), hf, if_neg (hm c (List.mem_cons_self ..))]
theorem numL_at {g cs : List (List Int)} (h : CompOk g cs) (h1 : 1 ≤ g.length) {j : Nat} {c : List Int} {x : Int} (hj : cs[j]? = some c) (hx : x ∈ c) : nthZ (numL (g.length - 1) cs) x = (j : Int) := by
  have hr := h.rng c (List.mem_of_getElem? hj) x hx
  have := (numGo_nth cs (List.replicate (g.length - 1 + 1) 0) 0 x (by omega) (fun c hc a ha => by
    have := h.rng c hc a ha
    rw [List.length_replicate]; omega) h.dis).1 j c hj hx
  unfold numL
  rw [this]; omega
/-- The order of the comps: the smallest one that waits for none (graph.sorted). f: the first atom of a comp. -/
def putR (f : Int → Int) (ready : List Int) (i : Int) : List Int := ready.takeWhile (fun x => decide (f x < f i)) ++ i :: ready.dropWhile (fun x => decide (f x < f i))
def decAll (f : Int → Int) : List Int → List Int × List Int → List Int × List Int
  | [], s => s
  | k :: l, (nd, rd) => decAll f l (updZ nd k (nthZ nd k - 1), if nthZ nd k - 1 = 0 then putR f rd k else rd)
structure KS where
  nd : List Int
  rd : List Int
  ord : List Int
def kStep (f : Int → Int) (W : Int → List Int) (s : KS) : KS :=
  match s.rd with
  | [] => s
  | i :: r => ⟨(decAll f (W i) (s.nd, r)).1, (decAll f (W i) (s.nd, r)).2, s.ord ++ [i]⟩
theorem put_mem (f : Int → Int) (rd : List Int) (i x : Int) : x ∈ putR f rd i ↔ x = i ∨ x ∈ rd := by
  unfold putR
  rw [List.mem_append, List.mem_cons]
  have : x ∈ rd ↔ x ∈ rd.takeWhile (fun x => decide (f x < f i)) ∨ x ∈ rd.dropWhile (fun x => decide (f x < f i)) := by
    rw [← List.mem_append, List.takeWhile_append_dropWhile]
  rw [this]
  constructor
  · rintro (h | h | h)
    · exact .inr (.inl h)
    · exact .inl h
    · exact .inr (.inr h)
  · rintro (h | h | h)
    · exact .inr (.inl h)
    · exact .inl h
    · exact .inr (.inr h)
theorem drop_ge (f : Int → Int) (i : Int) : ∀ (rd : List Int), rd.Pairwise (fun x y => f x < f y) → ∀ x ∈ rd.dropWhile (fun x => decide (f x < f i)), f i ≤ f x
  | [], _, x, hx => by simp at hx
  | y :: t, h, x, hx => by
    rw [List.pairwise_cons] at h
    rw [List.dropWhile_cons] at hx
    by_cases hy : f y < f i
    · rw [if_pos (by simpa using hy)] at hx
      exact drop_ge f i t h.2 x hx
    · rw [if_neg (by simpa using hy)] at hx
      rcases List.mem_cons.1 hx with rfl | hx
      · omega
      · have := h.1 x hx; omega
theorem take_lt (f : Int → Int) (i : Int) : ∀ (rd : List Int), ∀ x ∈ rd.takeWhile (fun x => decide (f x < f i)), f x < f i
  | [], x, hx => by simp at hx
  | y :: t, x, hx => by
    rw [List.takeWhile_cons] at hx
    by_cases hy : f y < f i
    · rw [if_pos (by simpa using hy)] at hx
      rcases List.mem_cons.1 hx with rfl | hx
      · exact hy
      · exact take_lt f i t x hx
    · rw [if_neg (by simpa using hy)] at hx; cases hx
theorem put_sorted (f : Int → Int) {rd : List Int} {i : Int} (h : rd.Pairwise fun x y => f x < f y) (hi : ∀ x ∈ rd, f x ≠ f i) : (putR f rd i).Pairwise fun x y => f x < f y := by
  unfold putR
  have ht := take_lt f i rd
  have hd : ∀ x ∈ rd.dropWhile (fun x => decide (f x < f i)), f i < f x := fun x hx => by
    have h1 := drop_ge f i rd h x hx
    have h2 := hi x ((List.dropWhile_suffix _).subset hx)
    omega
  rw [List.pairwise_append, List.pairwise_cons]
  refine ⟨h.sublist (List.takeWhile_sublist _), ⟨hd, h.sublist (List.dropWhile_sublist _)⟩, fun x hx y hy => ?_⟩
  have := ht x hx
  rcases List.mem_cons.1 hy with rfl | hy
  · exact this
  · have := hd y hy; omega

/-- One comp's waiting comps are told. -/
theorem dec_spec (f : Int → Int) (m : Nat) (hf : ∀ x y : Int, 0 ≤ x → x < (m : Int) → 0 ≤ y → y < (m : Int) → f x = f y → x = y) : ∀ (l nd rd : List Int), nd.length = m → (∀ k ∈ l, 0 ≤ k ∧ k < (m : Int)) → (∀ k ∈ rd, 0 ≤ k ∧ k < (m : Int)) →
    (∀ k ∈ l, (l.count k : Int) ≤ nthZ nd k) → (∀ k ∈ l, k ∉ rd) → rd.Pairwise (fun x y => f x < f y) →
    (decAll f l (nd, rd)).1.length = m ∧ (∀ k, 0 ≤ k → k < (m : Int) → nthZ (decAll f l (nd, rd)).1 k = nthZ nd k - l.count k) ∧
    (∀ k, k ∈ (decAll f l (nd, rd)).2 ↔ k ∈ rd ∨ (k ∈ l ∧ nthZ nd k = l.count k)) ∧ (decAll f l (nd, rd)).2.Pairwise (fun x y => f x < f y)
  | [], nd, rd, hl, _, _, _, _, hs => ⟨hl, fun k _ _ => by simp [decAll], fun k => by simp [decAll], hs⟩
  | k :: l, nd, rd, hl, hr, hrd, hc, hn, hs => by
    have hk := hr k (List.mem_cons_self ..)
    have hup : ∀ x, 0 ≤ x → nthZ (updZ nd k (nthZ nd k - 1)) x = if k = x then nthZ nd k - 1 else nthZ nd x := fun x hx => nthZ_upd _ _ _ _ hk.1 hx (by omega)
    have hck := hc k (List.mem_cons_self ..)
    rw [List.count_cons_self] at hck
    have hknr := hn k (List.mem_cons_self ..)
    have hc' : ∀ x ∈ l, (l.count x : Int) ≤ nthZ (updZ nd k (nthZ nd k - 1)) x := fun x hx => by
      have h1 := hc x (List.mem_cons_of_mem _ hx)
      rw [hup x (hr x (List.mem_cons_of_mem _ hx)).1]
      by_cases e : k = x
      · subst e
        rw [if_pos rfl]; omega
      · rw [if_neg e]
        rw [List.count_cons_of_ne e] at h1; exact h1
    rw [decAll]
    have key : ∀ rd' : List Int, rd' = (if nthZ nd k - 1 = 0 then putR f rd k else rd) → (∀ x ∈ rd', 0 ≤ x ∧ x < (m : Int)) ∧ (∀ x ∈ l, x ∉ rd') ∧ rd'.Pairwise (fun x y => f x < f y) ∧ ∀ x, x ∈ rd' ↔ x ∈ rd ∨ (x = k ∧ nthZ nd k - 1 = 0) := by
      rintro rd' rfl
      by_cases h0 : nthZ nd k - 1 = 0
      · rw [if_pos h0]
        refine ⟨fun x hx => ?_, fun x hx hm => ?_, put_sorted f hs fun x hx e => ?_, fun x => ?_⟩
        · rcases (put_mem f rd k x).1 hx with rfl | h
          · exact hk
          · exact hrd x h
        · rcases (put_mem f rd k x).1 hm with rfl | h
          · have h2 := List.count_pos_iff.2 hx
            omega
          · exact hn x (List.mem_cons_of_mem _ hx) h
        · have := hf x k (hrd x hx).1 (hrd x hx).2 hk.1 hk.2 e
          subst this
          exact hknr hx
        · rw [put_mem]
          constructor
          · rintro (h | h)
            · exact .inr ⟨h, h0⟩
            · exact .inl h
          · rintro (h | h)
            · exact .inr h
            · exact .inl h.1
      · rw [if_neg h0]
        exact ⟨hrd, fun x hx => hn x (List.mem_cons_of_mem _ hx), hs, fun x => ⟨.inl, fun h => h.elim id fun h => absurd h.2 h0⟩⟩
    obtain ⟨q1, q2, q3, q4⟩ := key _ rfl
    have ih := dec_spec f m hf l (updZ nd k (nthZ nd k - 1)) (if nthZ nd k - 1 = 0 then putR f rd k else rd) (by rw [updZ_len]; exact hl) (fun x hx => hr x (List.mem_cons_of_mem _ hx)) q1 hc' q2 q3
    refine ⟨ih.1, fun x x0 x1 => ?_, fun x => ?_, ih.2.2.2⟩
    · rw [ih.2.1 x x0 x1, hup x x0]
      by_cases e : k = x
      · subst e
        rw [if_pos rfl, List.count_cons_self]; omega
      · rw [if_neg e, List.count_cons_of_ne e]
    · rw [ih.2.2.1 x, q4]
      constructor
      · rintro ((h | ⟨rfl, h⟩) | ⟨h1, h2⟩)
        · exact .inl h
        · have : l.count x = 0 := by omega
          exact .inr ⟨List.mem_cons_self .., by rw [List.count_cons_self]; omega⟩
        · refine .inr ⟨List.mem_cons_of_mem _ h1, ?_⟩
          rw [hup x (hr x (List.mem_cons_of_mem _ h1)).1] at h2
          by_cases e : k = x
          · subst e
            rw [if_pos rfl] at h2
            rw [List.count_cons_self]; omega
          · rw [if_neg e] at h2
            rw [List.count_cons_of_ne e]; exact h2
      · rintro (h | ⟨h1, h2⟩)
        · exact .inl (.inl h)
        · by_cases e : k = x
          · subst e
            rw [List.count_cons_self] at h2
            by_cases hm : k ∈ l
            · refine .inr ⟨hm, ?_⟩
              rw [hup k hk.1, if_pos rfl]; omega
            · have := List.count_eq_zero.2 hm
              exact .inl (.inr ⟨rfl, by omega⟩)
          · have hm : x ∈ l := by
              rcases List.mem_cons.1 h1 with h | h
              · exact absurd h.symm e
              · exact h
            refine .inr ⟨hm, ?_⟩
            rw [hup x (hr x h1).1, if_neg e]
            rw [List.count_cons_of_ne e] at h2; exact h2
def waitL (E : List (Int × Int)) (i : Int) : List Int := (E.filter fun e => decide (e.2 = i)).map (·.1)
def needN (E : List (Int × Int)) (ord : List Int) (k : Int) : Nat := (E.filter fun e => decide (e.1 = k) && decide (e.2 ∉ ord)).length
theorem wait_mem (E : List (Int × Int)) (i k : Int) : k ∈ waitL E i ↔ (k, i) ∈ E := by
  unfold waitL
  rw [List.mem_map]
  constructor
  · rintro ⟨e, he, rfl⟩
    obtain ⟨h1, h2⟩ := List.mem_filter.1 he
    have : e.2 = i := by simpa using h2
    rw [← this]; exact h1
  · intro h
    exact ⟨(k, i), List.mem_filter.2 ⟨h, by simp⟩, rfl⟩
theorem need_split (i k : Int) (ord : List Int) (hi : i ∉ ord) : ∀ E : List (Int × Int), needN E ord k = (waitL E i).count k + needN E (ord ++ [i]) k
  | [] => rfl
  | e :: E => by
    have ih := need_split i k ord hi E
    unfold needN waitL at ih ⊢
    rw [List.filter_cons, List.filter_cons, List.filter_cons]
    by_cases h1 : e.1 = k
    · by_cases h2 : e.2 = i
      · have h3 : e.2 ∉ ord := by rw [h2]; exact hi
        simp [h1, h2, hi] at ih ⊢
        omega
      · by_cases h3 : e.2 ∈ ord
        · simp [h1, h2, h3] at ih ⊢; omega
        · simp [h1, h2, h3] at ih ⊢; omega
    · by_cases h2 : e.2 = i
      · simp [h1, h2] at ih ⊢; omega
      · simp [h1, h2] at ih ⊢; omega
structure KInv (E : List (Int × Int)) (m : Nat) (f : Int → Int) (s : KS) : Prop where
  len : s.nd.length = m
  rng : ∀ k ∈ s.ord, 0 ≤ k ∧ k < (m : Int)
  rrng : ∀ k ∈ s.rd, 0 ≤ k ∧ k < (m : Int)
  nod : s.ord.Nodup
  need : ∀ k, 0 ≤ k → k < (m : Int) → nthZ s.nd k = (needN E s.ord k : Int)
  rd : ∀ k, 0 ≤ k → k < (m : Int) → (k ∈ s.rd ↔ k ∉ s.ord ∧ nthZ s.nd k = 0)
  srt : s.rd.Pairwise fun x y => f x < f y
  dn : ∀ k ∈ s.ord, nthZ s.nd k = 0
  topo : ∀ (i : Nat) k, s.ord[i]? = some k → ∀ b, (k, b) ∈ E → ∃ j < i, s.ord[j]? = some b
  last : ∀ x, s.ord.getLast? = some x → ∀ y ∈ s.rd, f x < f y ∨ (y, x) ∈ E
  cons : ∀ (i : Nat) x y, s.ord[i]? = some x → s.ord[i + 1]? = some y → f x < f y ∨ (y, x) ∈ E
structure EOk (E : List (Int × Int)) (m : Nat) (f : Int → Int) : Prop where
  e : ∀ e ∈ E, 0 ≤ e.1 ∧ e.1 < (m : Int) ∧ 0 ≤ e.2 ∧ e.2 < e.1
  f : ∀ x y : Int, 0 ≤ x → x < (m : Int) → 0 ≤ y → y < (m : Int) → f x = f y → x = y
theorem need_pos {E : List (Int × Int)} {ord : List Int} {k b : Int} (h : (k, b) ∈ E) (hb : b ∉ ord) : 1 ≤ needN E ord k := by
  unfold needN
  exact List.length_pos_iff.2 (List.ne_nil_of_mem (List.mem_filter.2 ⟨h, by simp [hb]⟩))
theorem need_zero {E : List (Int × Int)} {ord : List Int} {k b : Int} (h : (k, b) ∈ E) (hz : needN E ord k = 0) : b ∈ ord := by
  by_cases hb : b ∈ ord
  · exact hb
  · have := need_pos h hb; omega
theorem kStep_ok {E : List (Int × Int)} {m : Nat} {f : Int → Int} (hE : EOk E m f) {s : KS} (h : KInv E m f s) {i : Int} {r : List Int} (hr : s.rd = i :: r) : KInv E m f (kStep f (waitL E) s) := by
  have hi := h.rrng i (by rw [hr]; simp)
  have hsrt := h.srt
  rw [hr, List.pairwise_cons] at hsrt
  have hir := (h.rd i hi.1 hi.2).1 (by rw [hr]; simp)
  have hwE : ∀ k ∈ waitL E i, (k, i) ∈ E := fun k hk => (wait_mem E i k).1 hk
  have hwr : ∀ k ∈ waitL E i, 0 ≤ k ∧ k < (m : Int) := fun k hk => by have := hE.e _ (hwE k hk); exact ⟨this.1, this.2.1⟩
  have hcnt : ∀ k, 0 ≤ k → k < (m : Int) → nthZ s.nd k = ((waitL E i).count k : Int) + needN E (s.ord ++ [i]) k := fun k k0 k1 => by
    rw [h.need k k0 k1, need_split i k s.ord hir.1]; omega
  have hnr : ∀ k ∈ waitL E i, k ∉ r := fun k hk hm => by
    have hk2 := hwr k hk
    have h2 := ((h.rd k hk2.1 hk2.2).1 (by rw [hr]; exact List.mem_cons_of_mem _ hm)).2
    have h3 := need_pos (hwE k hk) hir.1
    have := h.need k hk2.1 hk2.2
    omega
  obtain ⟨d1, d2, d3, d4⟩ := dec_spec f m hE.f (waitL E i) s.nd r h.len hwr (fun k hk => h.rrng k (by rw [hr]; exact List.mem_cons_of_mem _ hk)) (fun k hk => by
    have hk2 := hwr k hk
    have := hcnt k hk2.1 hk2.2
    omega) hnr hsrt.2
  have hnd : ∀ k, 0 ≤ k → k < (m : Int) → nthZ (decAll f (waitL E i) (s.nd, r)).1 k = (needN E (s.ord ++ [i]) k : Int) := fun k k0 k1 => by
    rw [d2 k k0 k1, hcnt k k0 k1]; omega
  have hrd : ∀ k, 0 ≤ k → k < (m : Int) → (k ∈ (decAll f (waitL E i) (s.nd, r)).2 ↔ k ∉ s.ord ++ [i] ∧ nthZ (decAll f (waitL E i) (s.nd, r)).1 k = 0) := fun k k0 k1 => by
    rw [d3, d2 k k0 k1]
    constructor
    · rintro (hm | ⟨hm, he⟩)
      · have h2 := (h.rd k k0 k1).1 (by rw [hr]; exact List.mem_cons_of_mem _ hm)
        have h3 : (waitL E i).count k = 0 := List.count_eq_zero.2 fun hw => hnr k hw hm
        refine ⟨fun hk => ?_, by omega⟩
        rcases List.mem_append.1 hk with hk | hk
        · exact h2.1 hk
        · have : k = i := by simpa using hk
          subst this
          have := hsrt.1 k hm; omega
      · refine ⟨fun hk => ?_, by omega⟩
        have hc := List.count_pos_iff.2 hm
        rcases List.mem_append.1 hk with hk | hk
        · have := h.dn k hk; omega
        · have : k = i := by simpa using hk
          subst this
          have := hE.e _ (hwE k hm); simp only at this; omega
    · rintro ⟨hk, he⟩
      have hk1 : k ∉ s.ord := fun q => hk (List.mem_append.2 (.inl q))
      have hk2 : k ≠ i := fun q => hk (List.mem_append.2 (.inr (by simp [q])))
      by_cases hw : k ∈ waitL E i
      · exact .inr ⟨hw, by omega⟩
      · have h3 : (waitL E i).count k = 0 := List.count_eq_zero.2 hw
        have := (h.rd k k0 k1).2 ⟨hk1, by omega⟩
        rw [hr] at this
        rcases List.mem_cons.1 this with q | q
        · exact absurd q hk2
        · exact .inl q
  unfold kStep
  rw [hr]
  refine ⟨d1, fun k hk => ?_, fun k hk => ?_, ?_, hnd, hrd, d4, fun k hk => ?_, fun j k hj b hb => ?_, fun x hx y hy => ?_, fun j x y hx hy => ?_⟩
  · rcases List.mem_append.1 hk with hk | hk
    · exact h.rng k hk
    · have : k = i := by simpa using hk
      subst this; exact hi
  · rcases (d3 k).1 hk with hk | hk
    · exact h.rrng k (by rw [hr]; exact List.mem_cons_of_mem _ hk)
    · exact hwr k hk.1
  · rw [List.nodup_append]
    exact ⟨h.nod, by simp, fun x hx y hy => by
      have : y = i := by simpa using hy
      subst this
      exact fun e => hir.1 (e ▸ hx)⟩
  · have hkr : 0 ≤ k ∧ k < (m : Int) := by
      rcases List.mem_append.1 hk with hk | hk
      · exact h.rng k hk
      · have : k = i := by simpa using hk
        subst this; exact hi
    have hz : nthZ s.nd k = 0 := by
      rcases List.mem_append.1 hk with hk | hk
      · exact h.dn k hk
      · have : k = i := by simpa using hk
        subst this; exact hir.2
    show nthZ (decAll f (waitL E i) (s.nd, r)).1 k = 0
    have h1 := hnd k hkr.1 hkr.2
    have h2 := hcnt k hkr.1 hkr.2
    omega
  · rw [List.getElem?_append] at hj
    by_cases hl : j < s.ord.length
    · rw [if_pos hl] at hj
      obtain ⟨q, hq, e⟩ := h.topo j k hj b hb
      exact ⟨q, hq, by rw [List.getElem?_append, if_pos (by omega)]; exact e⟩
    · rw [if_neg hl] at hj
      have hj2 : j = s.ord.length := by
        have := (List.getElem?_eq_some_iff.1 hj).1
        simp at this; omega
      subst hj2
      have : k = i := by simpa using hj.symm
      subst this
      have hz := h.need k hi.1 hi.2
      have hbo := need_zero hb (ord := s.ord) (by have := hir.2; omega)
      obtain ⟨q, hq⟩ := List.getElem?_of_mem hbo
      have hql := (List.getElem?_eq_some_iff.1 hq).1
      exact ⟨q, hql, by rw [List.getElem?_append, if_pos hql]; exact hq⟩
  · have : x = i := by simpa using hx.symm
    subst this
    rcases (d3 y).1 hy with hy | hy
    · exact .inl (hsrt.1 y hy)
    · exact .inr (hwE y hy.1)
  · rw [List.getElem?_append] at hx hy
    by_cases hl : j + 1 < s.ord.length
    · rw [if_pos (by omega)] at hx
      rw [if_pos hl] at hy
      exact h.cons j x y hx hy
    · rw [if_neg hl] at hy
      have hj2 : j + 1 = s.ord.length := by
        have := (List.getElem?_eq_some_iff.1 hy).1
        simp at this; omega
      have hy2 : y = i := by
        have e : j + 1 - s.ord.length = 0 := by omega
        rw [e] at hy; simpa using hy.symm
      subst hy2
      rw [if_pos (by omega)] at hx
      exact h.last x (by rw [List.getLast?_eq_getElem?, show s.ord.length - 1 = j by omega]; exact hx) y (by rw [hr]; simp)
theorem kInv_done {E : List (Int × Int)} {m : Nat} {f : Int → Int} (hE : EOk E m f) {s : KS} (h : KInv E m f s) (hr : s.rd = []) : ∀ (n : Nat) (k : Int), k.toNat ≤ n → 0 ≤ k → k < (m : Int) → k ∈ s.ord := by
  intro n
  induction n using Nat.strongRecOn with
  | ind n ih =>
    intro k hn k0 k1
    refine Classical.byContradiction fun hk => ?_
    have hz : nthZ s.nd k = 0 := by
      rw [h.need k k0 k1]
      unfold needN
      have : E.filter (fun e => decide (e.1 = k) && decide (e.2 ∉ s.ord)) = [] := List.filter_eq_nil_iff.2 fun e he hh => by
        simp at hh
        have h2 := hE.e e he
        exact hh.2 (ih (k.toNat - 1) (by omega) e.2 (by omega) h2.2.2.1 (by omega))
      rw [this]; rfl
    have := (h.rd k k0 k1).2 ⟨hk, hz⟩
    rw [hr] at this; cases this
theorem nodup_le : ∀ (m : Nat) (l : List Int), l.Nodup → (∀ k ∈ l, 0 ≤ k ∧ k < (m : Int)) → l.length ≤ m
  | 0, l, _, h => by
    cases l with
    | nil => simp
    | cons a l => have := h a (List.mem_cons_self ..); omega
  | m + 1, l, hn, h => by
    have ih := nodup_le m (l.erase (m : Int)) (hn.erase _) (fun k hk => by
      obtain ⟨h1, h2⟩ := (hn.mem_erase_iff).1 hk
      have := h k h2
      omega)
    have := List.length_erase (a := (m : Int)) (l := l)
    split at this <;> omega
theorem ord_le {E : List (Int × Int)} {m : Nat} {f : Int → Int} {s : KS} (h : KInv E m f s) : s.ord.length ≤ m := nodup_le m _ h.nod h.rng
/-- The first state. -/
def kInit (f : Int → Int) (E : List (Int × Int)) (m : Nat) : KS :=
  ⟨(List.range m).map (fun (i : Nat) => (needN E [] (i : Int) : Int)), (List.range m).foldl (fun rd (i : Nat) => if needN E [] (i : Int) = 0 then putR f rd (i : Int) else rd) [], []⟩
theorem init_rd {E : List (Int × Int)} {m : Nat} {f : Int → Int} (hf : ∀ x y : Int, 0 ≤ x → x < (m : Int) → 0 ≤ y → y < (m : Int) → f x = f y → x = y) : ∀ n : Nat, n ≤ m →
    ((List.range n).foldl (fun rd (i : Nat) => if needN E [] (i : Int) = 0 then putR f rd (i : Int) else rd) []).Pairwise (fun x y => f x < f y) ∧
    ∀ k : Int, k ∈ (List.range n).foldl (fun rd (i : Nat) => if needN E [] (i : Int) = 0 then putR f rd (i : Int) else rd) [] ↔ 0 ≤ k ∧ k < (n : Int) ∧ needN E [] k = 0
  | 0, _ => ⟨by simp, fun k => by simp; omega⟩
  | n + 1, hn => by
    obtain ⟨i1, i2⟩ := init_rd hf n (by omega)
    rw [List.range_succ, List.foldl_append]
    simp only [List.foldl_cons, List.foldl_nil]
    by_cases h0 : needN E [] (n : Int) = 0
    · rw [if_pos h0]
      refine ⟨put_sorted f i1 fun x hx e => ?_, fun k => ?_⟩
      · have := (i2 x).1 hx
        have := hf x n this.1 (by omega) (by omega) (by omega) e
        omega
      · rw [put_mem, i2]
        constructor
        · rintro (rfl | h)
          · exact ⟨by omega, by omega, h0⟩
          · exact ⟨h.1, by omega, h.2.2⟩
        · rintro ⟨h1, h2, h3⟩
          by_cases e : k = n
          · exact .inl e
          · exact .inr ⟨h1, by omega, h3⟩
    · rw [if_neg h0]
      refine ⟨i1, fun k => ?_⟩
      rw [i2]
      constructor
      · rintro ⟨h1, h2, h3⟩; exact ⟨h1, by omega, h3⟩
      · rintro ⟨h1, h2, h3⟩
        refine ⟨h1, ?_, h3⟩
        by_cases e : k = n
        · subst e; exact absurd h3 h0
        · omega
theorem init_inv {E : List (Int × Int)} {m : Nat} {f : Int → Int} (hE : EOk E m f) : KInv E m f (kInit f E m) := by
  obtain ⟨i1, i2⟩ := init_rd (E := E) hE.f m (Nat.le_refl m)
  have hn : ∀ k : Int, 0 ≤ k → k < (m : Int) → nthZ ((List.range m).map (fun (i : Nat) => (needN E [] (i : Int) : Int))) k = (needN E [] k : Int) := fun k k0 k1 => by
    unfold nthZ
    rw [List.getD_eq_getElem?_getD, List.getElem?_map, List.getElem?_range (by omega)]
    simp only [Option.map_some, Option.getD_some]
    rw [show ((k.toNat : Nat) : Int) = k by omega]
  refine ⟨by simp [kInit], fun k hk => (by cases hk), fun k hk => ?_, by simp [kInit], hn, fun k k0 k1 => ?_, i1, fun k hk => (by cases hk), fun i k hk => (by simp [kInit] at hk), fun x hx => (by simp [kInit] at hx), fun i x y hx => (by simp [kInit] at hx)⟩
  · have := (i2 k).1 hk; exact ⟨this.1, this.2.1⟩
  · show k ∈ (List.range m).foldl _ [] ↔ _
    rw [i2, show nthZ (kInit f E m).nd k = (needN E [] k : Int) from hn k k0 k1]
    constructor
    · rintro ⟨_, _, h⟩; exact ⟨by simp [kInit], by omega⟩
    · rintro ⟨_, h⟩; exact ⟨k0, k1, by omega⟩
def kIter (f : Int → Int) (W : Int → List Int) : Nat → KS → KS
  | 0, s => s
  | n + 1, s => kIter f W n (kStep f W s)
theorem kIter_ok {E : List (Int × Int)} {m : Nat} {f : Int → Int} (hE : EOk E m f) : ∀ (n : Nat) {s : KS}, KInv E m f s → KInv E m f (kIter f (waitL E) n s) ∧ ((kIter f (waitL E) n s).rd = [] ∨ (kIter f (waitL E) n s).ord.length = s.ord.length + n)
  | 0, s, h => ⟨h, .inr rfl⟩
  | n + 1, s, h => by
    cases hr : s.rd with
    | nil =>
      have e : kStep f (waitL E) s = s := by unfold kStep; rw [hr]
      have ih := kIter_ok hE n h
      rw [kIter, e]
      refine ⟨ih.1, .inl ?_⟩
      have : ∀ n, kIter f (waitL E) n s = s := fun n => by
        induction n with
        | zero => rfl
        | succ n ih => rw [kIter, e, ih]
      rw [this]; exact hr
    | cons i r =>
      have h1 := kStep_ok hE h hr
      have ih := kIter_ok hE n h1
      refine ⟨ih.1, ih.2.imp id fun q => ?_⟩
      rw [kIter, q]
      have : (kStep f (waitL E) s).ord.length = s.ord.length + 1 := by unfold kStep; rw [hr]; simp
      omega
/-- The comps in order. -/
def kOrd (f : Int → Int) (E : List (Int × Int)) (m : Nat) : List Int := (kIter f (waitL E) m (kInit f E m)).ord
structure OrdOk (E : List (Int × Int)) (m : Nat) (f : Int → Int) (o : List Int) : Prop where
  all : ∀ k, k ∈ o ↔ 0 ≤ k ∧ k < (m : Int)
  nod : o.Nodup
  topo : ∀ (i : Nat) k, o[i]? = some k → ∀ b, (k, b) ∈ E → ∃ j < i, o[j]? = some b
  cons : ∀ (i : Nat) x y, o[i]? = some x → o[i + 1]? = some y → f x < f y ∨ (y, x) ∈ E
theorem kOrd_ok {E : List (Int × Int)} {m : Nat} {f : Int → Int} (hE : EOk E m f) : OrdOk E m f (kOrd f E m) := by
  obtain ⟨h, hd⟩ := kIter_ok hE m (init_inv hE)
  have hall : ∀ k, 0 ≤ k → k < (m : Int) → k ∈ kOrd f E m := by
    rcases hd with hd | hd
    · exact fun k k0 k1 => kInv_done hE h hd _ k (Nat.le_refl _) k0 k1
    · have hl : (kOrd f E m).length = m := by unfold kOrd; rw [hd]; simp [kInit]
      refine fun k k0 k1 => Classical.byContradiction fun hk => ?_
      have := nodup_le m (k :: kOrd f E m) (List.nodup_cons.2 ⟨hk, h.nod⟩) (fun x hx => by
        rcases List.mem_cons.1 hx with rfl | hx
        · exact ⟨k0, k1⟩
        · exact h.rng x hx)
      rw [List.length_cons, hl] at this; omega
  exact ⟨fun k => ⟨h.rng k, fun hk => hall k hk.1 hk.2⟩, h.nod, h.topo, h.cons⟩
end Go.Proofs.Ytbfbkpoakmnlpaa

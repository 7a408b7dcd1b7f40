/- Plain lemmas for the rounds of reduct.Rounds: bounds of needs, lengths, one step more. -/
import Derived.Test.YtcbkkjcleiibfaaDfo
namespace Go.Proofs.Ytcbkkjcleiibfaa

theorem nodup_len : ∀ (n : Nat) (l : List Int), l.Nodup → (∀ x ∈ l, 1 ≤ x ∧ x ≤ (n : Int)) → l.length ≤ n
  | 0, l, _, h => by
    cases l with
    | nil => simp
    | cons x r => have := h x (by simp); omega
  | n + 1, l, hn, h => by
    by_cases hm : ((n : Int) + 1) ∈ l
    · have h1 := nodup_len n (l.erase ((n : Int) + 1)) (hn.erase _) (fun x hx => by
        have h2 := (hn.mem_erase_iff).1 hx
        have h3 := h x h2.2
        have h4 := h2.1
        omega)
      rw [List.length_erase_of_mem hm] at h1
      omega
    · have h1 := nodup_len n l hn (fun x hx => by
        have h3 := h x hx
        have h4 : x ≠ (n : Int) + 1 := fun e => hm (e ▸ hx)
        omega)
      omega
theorem pair_nodup {l : List Int} (h : l.Pairwise (· < ·)) : l.Nodup := h.imp fun hab => by omega
theorem DefIs.blen {r : GRule} {n : Int} (h : DefIs r n) : r.body.length ≤ 4000 := by
  have h0 := h.is.n0
  have h1 := h.is.n1
  have := nodup_len n.toNat r.body (pair_nodup h.pair) (fun x hx => by
    have h2 := h.pos x hx
    have h3 := litB_bd (ordGo_mem n _ _ h.is.body x hx)
    omega)
  omega
theorem bp_bd {r : GRule} {n : Int} (h : DefIs r n) : ∀ p ∈ bp r, 1 ≤ p.2 ∧ p.2 ≤ 1048576 := by
  intro p hp
  unfold bp at hp
  by_cases hs : r.sum = true
  · rw [if_pos hs] at hp
    have hm := (List.of_mem_zip hp).2
    have hw := wtGo_spec r.w 0 (by omega) (by omega) (h.is.wt hs)
    refine ⟨hw.1 _ hm, ?_⟩
    have : ∀ (l : List Int), (∀ y ∈ l, 1 ≤ y) → ∀ x ∈ l, x ≤ l.sum := by
      intro l
      induction l with
      | nil => simp
      | cons y t ih =>
        intro hy x hx
        have h1 := hy y (by simp)
        have h2 := sum_nonneg (l := t) fun z hz => by have := hy z (by simp [hz]); omega
        rcases List.mem_cons.1 hx with rfl | hx
        · rw [List.sum_cons]; omega
        · have := ih (fun z hz => hy z (by simp [hz])) x hx
          rw [List.sum_cons]; omega
    have h3 := this r.w hw.1 _ hm
    omega
  · rw [if_neg hs] at hp
    obtain ⟨x, _, rfl⟩ := List.mem_map.1 hp
    simp
theorem sumP_nonneg (m : List Int) : ∀ (l : List (Int × Int)), (∀ p ∈ l, 0 ≤ p.2) → 0 ≤ sumP m l
  | [], _ => by simp [sumP]
  | p :: r, h => by
    have h1 := h p (by simp)
    have h2 := sumP_nonneg m r fun q hq => h q (by simp [hq])
    simp only [sumP]; split <;> omega
theorem sumP_le (m : List Int) : ∀ (xs ys : List Int), (∀ y ∈ ys, 0 ≤ y) → sumP m (xs.zip ys) ≤ ys.sum
  | [], ys, h => by simp [sumP]; exact sum_nonneg h
  | x :: xs, [], _ => by simp [sumP]
  | x :: xs, y :: ys, h => by
    have h1 := h y (by simp)
    have h2 := sumP_le m xs ys fun q hq => h q (by simp [hq])
    simp only [List.zip_cons_cons, sumP, List.sum_cons]; split <;> omega
theorem need_bd {r : GRule} {n : Int} (h : DefIs r n) (m : List Int) : -1048576 ≤ needF r m ∧ needF r m ≤ 1048576 := by
  have hp := sumP_nonneg m (bp r) fun p hp => by have := (bp_bd h p hp).1; omega
  unfold needF boundOf
  by_cases hs : r.sum = true
  · have hw := wtGo_spec r.w 0 (by omega) (by omega) (h.is.wt hs)
    have h0 := h.is.b0 hs
    have h1 := h.is.b1 hs
    have h2 := sumP_le m r.body r.w fun y hy => by have := hw.1 y hy; omega
    unfold bp at hp ⊢
    rw [if_pos hs] at hp ⊢
    rw [if_pos hs]
    omega
  · have h1 := (sumP_one m r.body).1
    have h2 := h.blen
    unfold bp at hp ⊢
    rw [if_neg hs] at hp ⊢
    rw [if_neg hs]
    omega
theorem usesGo_bd {n : Int} {rs : List GRule} (h : ∀ r ∈ rs, defR n r = true) (a : Int) : ∀ p ∈ usesGo a 0 rs, 0 ≤ p.1 ∧ p.1 < (rs.length : Int) ∧ 1 ≤ p.2 ∧ p.2 ≤ 1048576 := by
  intro p hp
  obtain ⟨k, r, h1, h2, h3⟩ := (usesGo_mem a rs 0 p).1 hp
  have hk := (List.getElem?_eq_some_iff.1 h1).1
  have := bp_bd (defR_is (h r (List.mem_of_getElem? h1))) _ h3
  simp only at this
  omega
theorem subU_bd (M : Int) (hM : 0 ≤ M) : ∀ (l : List (Int × Int)) (f : Nat → Int) (j : Nat), (∀ p ∈ l, 0 ≤ p.2 ∧ p.2 ≤ M) → f j - M * (l.length : Int) ≤ subU f l j ∧ subU f l j ≤ f j
  | [], f, j, _ => by simp [subU]
  | p :: r, f, j, h => by
    have h1 := h p (by simp)
    have h2 := subU_bd M hM r (upd f p.1.toNat (f p.1.toNat - p.2)) j fun q hq => h q (by simp [hq])
    have h3 : f j - M ≤ upd f p.1.toNat (f p.1.toNat - p.2) j ∧ upd f p.1.toNat (f p.1.toNat - p.2) j ≤ f j := by
      unfold upd; split
      · rename_i e; subst e; omega
      · omega
    rw [subU, List.length_cons, Int.natCast_add, Int.mul_add]
    omega
theorem subA_bd {n : Int} {rs : List GRule} (h : ∀ r ∈ rs, defR n r = true) : ∀ (l : List Int) (f : Nat → Int) (j : Nat), f j - 1048576 * ((rs.length : Int) * (l.length : Int)) ≤ subA rs f l j ∧ subA rs f l j ≤ f j
  | [], f, j => by simp [subA]
  | a :: r, f, j => by
    have h1 := subU_bd 1048576 (by omega) (usesGo a 0 rs) f j fun p hp => by have := usesGo_bd h a p hp; omega
    have h2 := subA_bd h r (subU f (usesGo a 0 rs)) j
    have h3 := usesGo_len (n := n) a rs 0 h
    rw [subA, List.length_cons, Int.natCast_add, Int.mul_add]
    have : (1048576 : Int) * ((usesGo a 0 rs).length : Int) ≤ 1048576 * (rs.length : Int) := by omega
    omega
theorem subA_app (rs : List GRule) : ∀ (l : List Int) (f : Nat → Int) (a : Int), subA rs f (l ++ [a]) = subU (subA rs f l) (usesGo a 0 rs)
  | [], f, a => rfl
  | b :: r, f, a => by rw [List.cons_append, subA, subA, subA_app rs r]
theorem take_snoc' {α : Type} {l : List α} {k : Nat} {x : α} (h : l[k]? = some x) : l.take (k + 1) = l.take k ++ [x] := by
  rw [List.take_add_one, h]; rfl
theorem subA_take {rs : List GRule} {f : Nat → Int} {l : List Int} {k : Nat} {a : Int} (h : l[k]? = some a) : subA rs f (l.take (k + 1)) = subU (subA rs f (l.take k)) (usesGo a 0 rs) := by
  rw [take_snoc' h, subA_app]
theorem subU_take {f : Nat → Int} {l : List (Int × Int)} {k : Nat} {p : Int × Int} (h : l[k]? = some p) : subU f (l.take (k + 1)) = upd (subU f (l.take k)) p.1.toNat (subU f (l.take k) p.1.toNat - p.2) := by
  rw [take_snoc' h, subU_app]; rfl
/-- What a step of the inner loop subtracts stays within int. -/
theorem mid_bd {n : Nat} {rs : List GRule} (hd : ∀ r ∈ rs, defR n r = true) (hl : rs.length ≤ 40000) (hn : n ≤ 4000) {f : Nat → Int} (hf : ∀ j, j < rs.length → -1048576 ≤ f j ∧ f j ≤ 1048576) {l : List Int} (hll : l.length ≤ n) (k m : Nat) (a : Int) (j : Nat) (hj : j < rs.length) :
    -1000000000000000000 ≤ subU (subA rs f (l.take k)) ((usesGo a 0 rs).take m) j ∧ subU (subA rs f (l.take k)) ((usesGo a 0 rs).take m) j ≤ 1048576 := by
  have h1 := subA_bd hd (l.take k) f j
  have h2 := subU_bd 1048576 (by omega) ((usesGo a 0 rs).take m) (subA rs f (l.take k)) j fun p hp => by have := usesGo_bd hd a p (List.mem_of_mem_take hp); omega
  have h3 := hf j hj
  have h4 : ((usesGo a 0 rs).take m).length ≤ 40000 := by
    have := List.length_take_le' m (usesGo a 0 rs)
    have := usesGo_len (n := (n : Int)) a rs 0 hd
    omega
  have h5 : (l.take k).length ≤ 4000 := by
    have := List.length_take_le' k l
    omega
  have h6 : rs.length * (l.take k).length ≤ 40000 * 4000 := Nat.mul_le_mul hl h5
  have h7 : ((rs.length : Int) * ((l.take k).length : Int)) ≤ 160000000 := by
    have : ((rs.length * (l.take k).length : Nat) : Int) ≤ 160000000 := by omega
    rwa [Int.natCast_mul] at this
  omega
theorem reachL_snoc (rs : List GRule) (f : Nat → Int) (k : Int) (s : (Nat → Int) × List Int) (is : List Nat) (i : Nat) : reachL rs f k s (is ++ [i]) = reachS rs f k (reachL rs f k s is) i := by
  simp [reachL, List.foldl_append]
theorem reachS_len (rs : List GRule) (f : Nat → Int) (k : Int) (s : (Nat → Int) × List Int) (i : Nat) : (reachS rs f k s i).2.length ≤ s.2.length + 1 := by
  unfold reachS
  split
  · split
    · simp
    · omega
  · omega
theorem reachL_len (rs : List GRule) (f : Nat → Int) (k : Int) : ∀ (is : List Nat) (s : (Nat → Int) × List Int), (reachL rs f k s is).2.length ≤ s.2.length + is.length
  | [], s => by simp [reachL]
  | i :: r, s => by
    have h1 := reachL_len rs f k r (reachS rs f k s i)
    have h2 := reachS_len rs f k s i
    have e : reachL rs f k s (i :: r) = reachL rs f k (reachS rs f k s i) r := rfl
    rw [e, List.length_cons]; omega
theorem usedIs_len {n : Int} {rs : List GRule} (h : ∀ r ∈ rs, defR n r = true) : ∀ (l : List Int), (usedIs rs l).length ≤ l.length * rs.length
  | [] => by simp [usedIs]
  | a :: r => by
    have h1 := usedIs_len h r
    have h2 := usesGo_len (n := n) a rs 0 h
    have e : usedIs rs (a :: r) = (usesGo a 0 rs).map (fun p => p.1.toNat) ++ usedIs rs r := by simp [usedIs]
    rw [e, List.length_append, List.length_map, List.length_cons, Nat.add_mul]; omega
theorem usedIs_take {rs : List GRule} {l : List Int} {k : Nat} {a : Int} (h : l[k]? = some a) : usedIs rs (l.take (k + 1)) = usedIs rs (l.take k) ++ (usesGo a 0 rs).map (fun p => p.1.toNat) := by
  rw [take_snoc' h]; simp [usedIs]
theorem map_take {l : List (Int × Int)} {k : Nat} {p : Int × Int} (h : l[k]? = some p) : (l.take (k + 1)).map (fun p => p.1.toNat) = (l.take k).map (fun p => p.1.toNat) ++ [p.1.toNat] := by
  rw [take_snoc' h]; simp
/-- The row of new atoms stays short. -/
theorem now_len {n : Nat} {rs : List GRule} (hd : ∀ r ∈ rs, defR n r = true) (hl : rs.length ≤ 40000) (hn : n ≤ 4000) {l : List Int} (hll : l.length ≤ n) (f o : Nat → Int) (k : Int) (j m : Nat) (a : Int) :
    (reachL rs f k (o, []) (usedIs rs (l.take j) ++ ((usesGo a 0 rs).take m).map (fun p => p.1.toNat))).2.length < 4398046511104 := by
  have h1 := reachL_len rs f k (usedIs rs (l.take j) ++ ((usesGo a 0 rs).take m).map (fun p => p.1.toNat)) (o, [])
  have h2 := usedIs_len hd (l.take j)
  have h3 : ((usesGo a 0 rs).take m).length ≤ 40000 := by
    have := List.length_take_le' m (usesGo a 0 rs)
    have := usesGo_len (n := (n : Int)) a rs 0 hd
    omega
  have h5 : (l.take j).length ≤ 4000 := by
    have := List.length_take_le' j l
    omega
  have h6 : (l.take j).length * rs.length ≤ 4000 * 40000 := Nat.mul_le_mul h5 hl
  rw [List.length_append, List.length_map] at h1
  simp only [List.length_nil] at h1
  omega
theorem RInv.len {rs : List GRule} {n k : Nat} {f o : Nat → Int} {nw : List Int} (h : RInv rs n k f o nw) : nw.length ≤ n :=
  nodup_len n nw h.nd fun x hx => by obtain ⟨j, h1, h2, _⟩ := (h.now x).1 hx; omega
theorem RInv.bd {rs : List GRule} {n k : Nat} {f o : Nat → Int} {nw : List Int} (h : RInv rs n k f o nw) (hd : ∀ r ∈ rs, defR n r = true) : ∀ j, j < rs.length → -1048576 ≤ f j ∧ f j ≤ 1048576 := fun j hj => by
  have e : rs[j]? = some rs[j] := List.getElem?_eq_getElem hj
  rw [h.need j _ e]
  exact need_bd (defR_is (hd _ (List.mem_of_getElem? e))) _
theorem RInv.mem {rs : List GRule} {n k : Nat} {f o : Nat → Int} {nw : List Int} (h : RInv rs n k f o nw) : ∀ x ∈ nw, 1 ≤ x ∧ x ≤ (n : Int) := fun x hx => by
  obtain ⟨j, h1, h2, _⟩ := (h.now x).1 hx; omega
end Go.Proofs.Ytcbkkjcleiibfaa

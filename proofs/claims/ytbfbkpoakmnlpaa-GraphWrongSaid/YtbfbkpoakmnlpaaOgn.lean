/- Rows of the call's own whose elements refer only to what was there before: generic over the element type. -/
import Derived.Test.YtbfbkpoakmnlpaaG6
import Derived.Test.YtbfbkpoakmnlpaaRngb
namespace Go.Proofs.Ytbfbkpoakmnlpaa
open Go.RowKit

/-- What is asked of an element type e and its slice type t. -/
structure ElTy {α : Type} (R : Rep α) (t e : TypeId) (z : Value) (bytes : Nat) : Prop where
  und : Try.prog.underlying t = some (.slice e)
  info : (Try.prog.info? e).map (fun i => (i.zero, i.size, i.bytes)) = some (some z, R.size, bytes)
  zs : z.cells.size = R.size
  small : bytes ≤ 128
section
variable {α : Type} {R : Rep α} {e : TypeId} {w0 W : World} {B : Nat} {v : Value} {xs : List α}
/-- The row lies from block B on; its elements refer to what lay in w0. -/
def OwnB (R : Rep α) (e : TypeId) (w0 : World) (B : Nat) (W : World) (v : Value) (xs : List α) : Prop :=
  (Below w0.heap.size w0 W ∧ w0.heap.size ≤ B ∧ B ≤ W.heap.size) ∧ ∃ cs, W.ownsRow B e R.size v xs.length cs ∧ ∀ i x, xs[i]? = some x → R.is w0 ((cs.drop (i * R.size)).take R.size) x
theorem OwnB.below (h : OwnB R e w0 B W v xs) : Below w0.heap.size w0 W := h.1.1
theorem OwnB.size (h : OwnB R e w0 B W v xs) : B ≤ W.heap.size := h.1.2.2
theorem OwnB.lt (h : OwnB R e w0 B W v xs) {k : Nat} (hk : v.ownBlock = some k) : B ≤ k ∧ k < W.heap.size := by
  obtain ⟨_, cs, h2, _⟩ := h; exact h2.lt k hk
theorem OwnB.nil (hb : Below w0.heap.size w0 W) (h1 : w0.heap.size ≤ B) (h2 : B ≤ W.heap.size) : OwnB R e w0 B W (.slice none 0 0) ([] : List α) := ⟨⟨hb, h1, h2⟩, [], World.ownsRow_nil W _ _ _, fun i x h => by simp at h⟩
/-- A row that was made without an element. -/
theorem OwnB.empty (hb : Below w0.heap.size w0 W) (h1 : w0.heap.size ≤ B) (h2 : B ≤ W.heap.size) {g : Nat} (hg : W.heap.size = g) : OwnB R e w0 B (W.alloc (.cells #[] e)) (.slice (some ⟨g, 0, none⟩) 0 0) ([] : List α) := by
  subst hg
  have h : (W.alloc (.cells #[] e)).ownsRow W.heap.size e R.size (.slice (some ⟨W.heap.size, 0, none⟩) 0 0) 0 [] := by
    exact World.ownsRow_made W #[] 0 (Nat.le_refl _) (by simp [maxLen]) (by simp)
  refine ⟨⟨hb.alloc hb.size _, h1, by simp; omega⟩, [], ⟨h.1, ?_⟩, fun i x hx => by simp at hx⟩
  rcases h.2 with h3 | ⟨g, cap, cur, a, b, c, d⟩
  · exact .inl h3
  · exact .inr ⟨g, cap, cur, a, Nat.le_trans h2 b, c, d⟩
theorem OwnB.bel {W' : World} (h : OwnB R e w0 B W v xs) (hb : Below W.heap.size W W') : OwnB R e w0 B W' v xs := by
  obtain ⟨⟨h1, h4, h5⟩, cs, h2, h3⟩ := h
  exact ⟨⟨bel_trans h1 hb, h4, Nat.le_trans h5 hb.size⟩, cs, h2.kept (grown_of_bel hb none) (by cases hv : v.ownBlock with | none => exact .inl rfl | some k => exact .inr (by simp)), h3⟩
/-- Blocks S have been written, from the base on; the row's is none of them. -/
theorem OwnB.kept {W' : World} {S : List Nat} (h : OwnB R e w0 B W v xs) (hk : Kept S W W') (hS : ∀ k ∈ S, w0.heap.size ≤ k ∧ v.ownBlock ≠ some k) : OwnB R e w0 B W' v xs := by
  obtain ⟨⟨h1, h4, h5⟩, cs, h2, h3⟩ := h
  exact ⟨⟨Kept.below h1 hk h1.size (fun q hq => (hS q hq).1), h4, Nat.le_trans h5 hk.size⟩, cs, ownsRow_keptS h2 hk (fun k hv hm => (hS k hm).2 hv), h3⟩
theorem OwnB.set (h : OwnB R e w0 B W v xs) {p : Addr} (h1 : w0.heap.size ≤ p.block) (h2 : p.block < B) (u : Value) : OwnB R e w0 B (W.setCell p u) v xs :=
  h.kept ((Kept.refl [p.block] W).set (.inl (by simp)) u) (fun k hk => by
    simp at hk; subst hk
    exact ⟨h1, fun e => by have := (h.lt e).1; omega⟩)
theorem OwnB.sl (h : OwnB R e w0 B W v xs) (hs : xs.length ≤ 17592186044416) : ∃ A c, v = .slice A xs.length c ∧ SlIs R W A xs.length c xs := by
  obtain ⟨⟨h1, _⟩, cs, h2, h3⟩ := h
  exact SlIs.of_own h2 rfl hs (fun i x hx => R.ext (h3 i x hx) h1)
/-- The cells of a slice, one behind the other. -/
theorem flat_cells {w : World} {ad : Addr} : ∀ (ys : List α) (o : Nat), (∀ i x, ys[i]? = some x → ∃ cs, R.is w cs x ∧ ∀ j u, cs[j]? = some u → w.cell? (ad.add (o + (i * R.size + j))) = some u) →
    ∃ news : List Value, news.length = ys.length * R.size ∧ (∀ j u, news[j]? = some u → w.cell? (ad.add (o + j)) = some u) ∧ (∀ u ∈ news, u.oneCell' = true) ∧ ∀ i x, ys[i]? = some x → R.is w ((news.drop (i * R.size)).take R.size) x
  | [], o, _ => ⟨[], by simp, by simp, by simp, by simp⟩
  | y :: r, o, h => by
    obtain ⟨c0, h1, h2⟩ := h 0 y rfl
    obtain ⟨news, n1, n2, n3, n4⟩ := flat_cells r (o + R.size) (fun i x hx => by
      obtain ⟨cs, a, b⟩ := h (i + 1) x (by simpa using hx)
      refine ⟨cs, a, fun j u hu => ?_⟩
      have := b j u hu
      rw [show o + R.size + (i * R.size + j) = o + ((i + 1) * R.size + j) from by rw [Nat.add_mul]; omega]
      exact this)
    have hl := R.len h1
    refine ⟨c0 ++ news, by rw [List.length_append, hl, n1, List.length_cons, Nat.add_mul]; omega, fun j u hu => ?_, fun u hu => ?_, fun i x hx => ?_⟩
    · rcases Nat.lt_or_ge j c0.length with hj | hj
      · rw [List.getElem?_append_left hj] at hu
        have := h2 j u hu
        simpa using this
      · rw [List.getElem?_append_right hj] at hu
        have := n2 _ u hu
        rw [show o + R.size + (j - c0.length) = o + j from by omega] at this
        exact this
    · rcases List.mem_append.1 hu with hu | hu
      · exact R.one h1 u hu
      · exact n3 u hu
    · match i, hx with
      | 0, hx =>
        simp at hx; subst hx
        rw [Nat.zero_mul, List.drop_zero, List.take_append_of_le_length (by omega), List.take_of_length_le (by omega)]; exact h1
      | i + 1, hx =>
        have := n4 i x (by simpa using hx)
        rw [show (i + 1) * R.size = R.size + i * R.size from by rw [Nat.add_mul]; omega, ← List.drop_drop, show (c0 ++ news).drop R.size = news from by rw [← hl, List.drop_left]]
        exact this
/-- append(v, ..): the new cells news lie at A in the present world, and read as ys by what was there before. -/
theorem OwnB.appN {t : TypeId} {z : Value} {bytes : Nat} (ht : ElTy R t e z bytes) (h : OwnB R e w0 B W v xs) (ad : Addr) (m c : Nat) (news : List Value) (ys : List α) (hm : m = ys.length) (hl : news.length = m * R.size) (hn : ∀ j u, news[j]? = some u → W.cell? (ad.add j) = some u) (h1 : ∀ u ∈ news, u.oneCell' = true)
    (hr : ∀ i x, ys[i]? = some x → R.is w0 ((news.drop (i * R.size)).take R.size) x) (hs : xs.length + m ≤ 1099511627776) (ty : TypeId) :
    ∃ v' w', (Builtin.append_ #[t, t] ty #[v, .slice (some ad) m c]).run Try.prog W = .ok v' w' ∧ OwnB R e w0 B w' v' (xs ++ ys) ∧ W.grownBy w' v.ownBlock ∧ (∀ k, v'.ownBlock = some k → v.ownBlock = some k ∨ W.heap.size ≤ k) := by
  obtain ⟨⟨hb, h4, h5⟩, cs, h2, h3⟩ := h
  obtain ⟨i0, hi0, hz0, hz1, hz2⟩ := info_parts ht.info
  have hcl : cs.length = xs.length * R.size := h2.1
  have hby : (xs.length + m) * bytes ≤ 140737488355328 := Nat.le_trans (Nat.mul_le_mul hs ht.small) (by omega)
  obtain ⟨v', w', hrun, k2, k3, _, k5⟩ := run_append_own_at (P := Try.prog) W B t ty e i0 _ R.size bytes ht.und hi0 hz0 hz1 hz2 ht.zs R.pos v xs.length cs h2 ad m c news hl hn h1 (by unfold maxLen; omega) hby h5
  refine ⟨v', w', hrun, ⟨⟨bel_grown hb k3 hb.size (fun q hq => Nat.le_trans h4 (h2.lt q hq).1), h4, Nat.le_trans h5 k3.size⟩, cs ++ news, by rw [List.length_append, ← hm]; exact k2, fun i x hx => ?_⟩, k3, fun k hk => ?_⟩
  · rcases Nat.lt_or_ge i xs.length with hi | hi
    · rw [List.getElem?_append_left hi] at hx
      have hle : (i + 1) * R.size ≤ xs.length * R.size := Nat.mul_le_mul_right _ hi
      rw [Nat.add_mul] at hle
      rw [List.drop_append_of_le_length (by omega), List.take_append_of_le_length (by rw [List.length_drop]; omega)]
      exact h3 i x hx
    · rw [List.getElem?_append_right hi] at hx
      have := hr _ x hx
      have hle : xs.length * R.size ≤ i * R.size := Nat.mul_le_mul_right _ hi
      rw [List.drop_append, List.drop_of_length_le (by omega), List.nil_append, hcl, ← Nat.sub_mul]
      exact this
  · rcases k5 with k5 | k5 <;> rw [k5] at hk
    · exact .inl hk
    · simp at hk; exact .inr (by omega)
/-- append(v, s...) of a slice that was there before. -/
theorem OwnB.appS {t : TypeId} {z : Value} {bytes : Nat} (ht : ElTy R t e z bytes) (h : OwnB R e w0 B W v xs) {A : Option Addr} {m c : Nat} {ys : List α} (hy : SlIs R w0 A m c ys) (hs : xs.length + m ≤ 1099511627776) (ty : TypeId) :
    ∃ v' w', (Builtin.append_ #[t, t] ty #[v, .slice A m c]).run Try.prog W = .ok v' w' ∧ OwnB R e w0 B w' v' (xs ++ ys) ∧ W.grownBy w' v.ownBlock ∧ (∀ k, v'.ownBlock = some k → v.ownBlock = some k ∨ W.heap.size ≤ k) := by
  rcases A with _ | ad
  · have h0 : m = 0 := by
      rcases Nat.eq_zero_or_pos m with h0 | h0
      · exact h0
      · obtain ⟨ad, he, _⟩ := hy.2.2.2 h0; cases he
    subst h0
    have hys : ys = [] := List.eq_nil_of_length_eq_zero hy.len.symm
    subst hys
    obtain ⟨i0, hi0, hz0, hz1, hz2⟩ := info_parts ht.info
    refine ⟨v, W, ?_, by simpa using h, grown_refl _ _, fun k hk => .inl hk⟩
    obtain ⟨_, cs, h2, _⟩ := h
    rcases h2.2 with ⟨rfl, _⟩ | ⟨g, cap, cur, rfl, _, _, hnc, _⟩
    · simp [Builtin.append_, run_underlying (P := Try.prog) ht.und, sizeOf, typeInfo, hi0, Builtin.lenOf, Builtin.firstCells]
    · simp [Builtin.append_, run_underlying (P := Try.prog) ht.und, sizeOf, typeInfo, hi0, Builtin.lenOf, Builtin.firstCells, hnc, storeCells]
  · by_cases h0 : m = 0
    · subst h0
      have hys : ys = [] := List.eq_nil_of_length_eq_zero hy.len.symm
      subst hys
      exact h.appN ht ad 0 c [] [] rfl (by simp) (by simp) (by simp) (by simp) hs ty
    · obtain ⟨ad', he, hlt, hc⟩ := hy.2.2.2 (by omega)
      cases he
      obtain ⟨news, n1, n2, n3, n4⟩ := flat_cells (R := R) (w := w0) (ad := ad) ys 0 (fun i x hx => by simpa using hc i x hx)
      refine h.appN ht ad m c news ys hy.len (by rw [n1, hy.len]) (fun j u hu => ?_) n3 n4 hs ty
      have := n2 j u hu
      rw [Nat.zero_add] at this
      exact (h.below.cell (World.block_lt_of_cell? _ _ this)).trans this
/-- append(v, x), the new element being boxed first. -/
theorem OwnB.app1 {t : TypeId} {z : Value} {bytes : Nat} (ht : ElTy R t e z bytes) (h : OwnB R e w0 B W v xs) (c0 : List Value) (x : α) (hx : R.is w0 c0 x) (hs : xs.length < 1099511627776) (ty : TypeId) :
    ∃ v' w', (Builtin.append_ #[t, t] ty #[v, .slice (some ⟨W.heap.size, 0, none⟩) 1 1]).run Try.prog (W.alloc (.cells c0.toArray e)) = .ok v' w' ∧ OwnB R e w0 B w' v' (xs ++ [x]) ∧ W.grownBy w' v.ownBlock ∧ (∀ k, v'.ownBlock = some k → v.ownBlock = some k ∨ W.heap.size ≤ k) := by
  have hl := R.len hx
  obtain ⟨v', w', hrun, h1, h2, h3⟩ := (h.bel (bel_alloc W (.cells c0.toArray e))).appN ht ⟨W.heap.size, 0, none⟩ 1 1 c0 [x] rfl (by omega)
    (fun j u hu => by rw [add_none, Nat.zero_add, (Blk.new W e c0.toArray).cell]; simpa using hu) (R.one hx)
    (fun i y hy => by
      match i, hy with
      | 0, hy => simp at hy; subst hy; rw [Nat.zero_mul, List.drop_zero, List.take_of_length_le (by omega)]; exact hx
      | i + 1, hy => simp at hy) (by omega) ty
  refine ⟨v', w', hrun, h1, ⟨h2.os, h2.tape, h2.output, Nat.le_trans (by simp) h2.size, fun k hk hne => ?_⟩, fun k hk => ?_⟩
  · rw [h2.block k (by simp; omega) hne]; exact Below.heap_alloc W _ k hk
  · rcases h3 k hk with h5 | h5
    · exact .inl h5
    · simp at h5; exact .inr (by omega)
theorem grown_kept {w w' : World} {v : Value} (hg : w.grownBy w' v.ownBlock) : Kept v.ownBlock.toList w w' := (Kept.refl _ w).grown hg (fun q hq => .inl (by simp [hq]))
end
theorem ety_int : ElTy intR 23 3 (.int .i64 0) 8 := ⟨Try.underlying23, by kernel_rfl, rfl, by omega⟩
theorem ety_rule : ElTy ruleR 24 54 (.agg #[.bool false, .slice none 0 0, .bool false, .int .i64 0, .slice none 0 0, .slice none 0 0]) 96 := ⟨Try.underlying24, by kernel_rfl, rfl, by omega⟩
theorem ety_set : ElTy (slR intR) 34 23 (.slice none 0 0) 24 := ⟨Try.underlying34, by kernel_rfl, rfl, by omega⟩
theorem filter_take {α : Type} {f : α → Bool} {l : List α} {k : Nat} {x : α} (h : l[k]? = some x) : (l.take (k + 1)).filter f = if f x then (l.take k).filter f ++ [x] else (l.take k).filter f := by
  rw [take_snoc' h, List.filter_append]
  cases hf : f x <;> simp [hf]
/-- append(append([]api.GRule{}, rs...), r): both runs. -/
theorem rules_app {w0 W : World} {rs : List GRule} {r : GRule} {A : Option Addr} {l c : Nat} (hs : SlIs ruleR w0 A l c rs) (hb : Below w0.heap.size w0 W) {c0 : List Value} (hr : ruleR.is w0 c0 r) (hl : l ≤ 1000000) (t1 t2 : TypeId) :
    ∃ v1 W1 qA qc W2, (Builtin.append_ #[24, 24] t1 #[.slice (some ⟨W.heap.size, 0, none⟩) 0 0, .slice A l c]).run Try.prog (W.alloc (.cells #[] 54)) = .ok v1 W1 ∧
      (Builtin.append_ #[24, 24] t2 #[v1, .slice (some ⟨W1.heap.size, 0, none⟩) 1 1]).run Try.prog (W1.alloc (.cells c0.toArray 54)) = .ok (.slice qA (rs.length + 1) qc) W2 ∧
      OwnB ruleR 54 w0 W.heap.size W2 (.slice qA (rs.length + 1) qc) (rs ++ [r]) ∧ Below W.heap.size W W2 := by
  have hlen := hs.len
  have h0 : OwnB ruleR 54 w0 W.heap.size (W.alloc (.cells #[] 54)) (.slice (some ⟨W.heap.size, 0, none⟩) 0 0) [] := OwnB.empty hb hb.size (Nat.le_refl _) rfl
  obtain ⟨v1, W1, r1, h1, g1, -⟩ := h0.appS ety_rule hs (by simp; omega) t1
  rw [List.nil_append] at h1
  obtain ⟨v2, W2, r2, h2, g2, -⟩ := h1.app1 ety_rule c0 r hr (by omega) t2
  have b1 : Below W.heap.size W W1 := bel_grown (bel_alloc W _) g1 h0.size (fun k hk => (h0.lt hk).1)
  have b2 : Below W.heap.size W W2 := bel_grown b1 g2 h1.size (fun k hk => (h1.lt hk).1)
  obtain ⟨qA, qc, rfl, _⟩ := h2.sl (by simp; omega)
  have e : (rs ++ [r]).length = rs.length + 1 := by simp
  rw [e] at r2 h2
  exact ⟨v1, W1, qA, qc, W2, r1, r2, h2, b2⟩
/-- append in a region that draws its order: what it leaves. -/
theorem step_appV {ops : Array Oper} {o : Oper} {a : Act} {K : Act → World → Prop} {Q : Exit → Act → World → Prop} {E : Prop} {w : World} (hgd : o.guard = none) (s x : Operand) (t : TypeId)
    (ho : o.op = .call { callee := .builtin .append, args := #[s, x], argTypes := #[t, t] }) {v u : Value} (hs : a.eval s = v) (hx : a.eval x = u) {v' : Value} {w' : World}
    (hrun : (Builtin.append_ #[t, t] o.type #[v, u]).run Try.prog w = .ok v' w') (hK : K (a.put o.dst v') w') : if Region.wanted o (yielded ops a.tmps) = true then Oper.wp Try.prog o a w K Q else E := by
  have hw : Region.wanted o (yielded ops a.tmps) = true := by simp [Region.wanted, hgd]
  rw [if_pos hw]
  unfold Oper.wp execOp
  simp only [ho, resolve, invoke, builtin, Sem.run_bind, Sem.run_pure, Result.andThen_ok, List.map_toArray, List.map_cons, List.map_nil, hs, hx, hrun]
  exact hK
end Go.Proofs.Ytbfbkpoakmnlpaa

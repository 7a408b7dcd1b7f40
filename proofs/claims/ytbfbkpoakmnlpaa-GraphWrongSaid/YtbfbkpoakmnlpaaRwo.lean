/- Rows seen from the present world, whose elements are steady off some blocks and off the row's own. -/
import Derived.Test.YtbfbkpoakmnlpaaRwk
namespace Go.Proofs.Ytbfbkpoakmnlpaa
open Go.RowKit

section
variable {α : Type} {R : Rep α} {e : TypeId} {W : World} {S : List Nat} {B : Nat} {v : Value} {xs : List α}
def ownL (v : Value) : List Nat := v.ownBlock.toList
theorem ownL_mem {k : Nat} : k ∈ ownL v ↔ v.ownBlock = some k := by unfold ownL; simp [Option.mem_toList]
/-- The row v reads as xs; its elements are steady off S and off the row itself. -/
def RowO (R : Rep α) (e : TypeId) (S : List Nat) (B : Nat) (W : World) (v : Value) (xs : List α) : Prop := RowK R e W (S ++ ownL v) B W v xs
theorem RowO.lt (h : RowO R e S B W v xs) {k : Nat} (hk : v.ownBlock = some k) : B ≤ k ∧ k < W.heap.size := RowK.lt h hk
theorem RowO.size (h : RowO R e S B W v xs) : B ≤ W.heap.size := h.1.2.1
theorem RowO.nil (h : B ≤ W.heap.size) : RowO R e S B W (.slice none 0 0) ([] : List α) := RowK.nil (Kept.refl _ _) h
theorem RowO.of {w0 : World} {T : List Nat} (h : RowK R e w0 T B W v xs) (hS : ∀ k ∈ S, k ∈ T ∨ w0.heap.size ≤ k) : RowO R e S B W v xs :=
  h.now (fun k hk => by
    rcases List.mem_append.1 hk with h1 | h1
    · exact hS k h1
    · exact h.1.2.2 k (ownL_mem.1 h1)) (fun k hk => List.mem_append.2 (.inr (ownL_mem.2 hk)))
theorem RowO.step {W' : World} {T : List Nat} (h : RowO R e S B W v xs) (hk : Kept T W W') (hT : ∀ k ∈ T, (k ∈ S ∨ W.heap.size ≤ k) ∧ v.ownBlock ≠ some k) : RowO R e S B W' v xs :=
  (RowK.kept h hk (fun k hk => ⟨(hT k hk).1.imp (fun h => List.mem_append.2 (.inl h)) id, (hT k hk).2⟩)).now (fun _ h => .inl h) (fun _ hk => List.mem_append.2 (.inr (ownL_mem.2 hk)))
theorem RowO.bel {W' : World} (h : RowO R e S B W v xs) (hb : Below W.heap.size W W') : RowO R e S B W' v xs := h.step (Kept.of_below hb []) (by simp)
theorem RowO.sl (h : RowO R e S B W v xs) (hs : xs.length ≤ 17592186044416) : ∃ A c, v = .slice A xs.length c ∧ SlIs R W A xs.length c xs := RowK.sl h hs
/-- The row as a steady slice, once it is written no more. -/
theorem RowO.stab (h : RowO R e S B W v xs) (hs : xs.length ≤ 17592186044416) {T : List Nat} (hT : ∀ k ∈ T, (k ∈ S ∨ W.heap.size ≤ k) ∧ v.ownBlock ≠ some k) : ∃ A c, v = .slice A xs.length c ∧ StabS R T W A xs.length c xs :=
  RowK.stab h hs (fun k hk => (hT k hk).1.imp (fun h => List.mem_append.2 (.inl h)) id) (fun k hv hk => (hT k hk).2 hv)
theorem RowO.app1 {t : TypeId} {z : Value} {bytes : Nat} (ht : ElTy R t e z bytes) (h : RowO R e S B W v xs) (c0 : List Value) (x : α) (hx : Stab R (S ++ ownL v) W c0 x) (hs : xs.length < 1099511627776) (ty : TypeId) :
    ∃ v' w', (Builtin.append_ #[t, t] ty #[v, .slice (some ⟨W.heap.size, 0, none⟩) 1 1]).run Try.prog (W.alloc (.cells c0.toArray e)) = .ok v' w' ∧ RowO R e S B w' v' (xs ++ [x]) ∧ W.grownBy w' v.ownBlock ∧ (∀ k, v'.ownBlock = some k → v.ownBlock = some k ∨ W.heap.size ≤ k) := by
  obtain ⟨v', w', h1, h2, h3, h4⟩ := RowK.app1 ht h c0 x hx hs ty
  exact ⟨v', w', h1, RowO.of h2 (fun k hk => .inl (List.mem_append.2 (.inl hk))), h3, h4⟩
/-- Cells that read steadily, as a reading. -/
def stabR (R : Rep α) (S : List Nat) (W : World) : Rep α where
  size := R.size
  pos := R.pos
  is := fun _ cs x => Stab R S W cs x
  len := fun h => R.len h.now
  ext := fun h _ => h
  one := fun h => R.one h.now
theorem StabS.elems {S : List Nat} {A : Option Addr} {m c : Nat} {ys : List α} {ad : Addr} (hy : StabS R S W A m c ys) (ho : Off S A m) (hA : A = some ad) (h0 : 0 < m) : ∀ i x, ys[i]? = some x → ∃ cs, Stab R S W cs x ∧ ∀ j u, cs[j]? = some u → W.cell? (ad.add (i * R.size + j)) = some u := by
  intro i x hx
  obtain ⟨ad', e1, hlt, hc⟩ := hy.now.2.2.2 h0
  rw [hA] at e1; cases e1
  obtain ⟨cs, hr, hcell⟩ := hc i x hx
  refine ⟨cs, fun V hV => ?_, hcell⟩
  obtain ⟨ad', e1, _, hc'⟩ := (hy V hV).2.2.2 h0
  rw [hA] at e1; cases e1
  obtain ⟨cs', hr', hcell'⟩ := hc' i x hx
  have hoff := ho h0 ad hA
  have hb : ∀ j, (ad.add (i * R.size + j)).block = ad.block := fun j => by unfold Addr.add; split <;> rfl
  have e : cs' = cs := by
    apply List.ext_getElem?
    intro j
    have l1 := R.len hr
    have l2 := R.len hr'
    rcases Nat.lt_or_ge j R.size with hj | hj
    · have g1 := hcell j _ (List.getElem?_eq_getElem (show j < cs.length by omega))
      have g2 := hcell' j _ (List.getElem?_eq_getElem (show j < cs'.length by omega))
      have g3 := hV.cell g1 (by rw [hb]; exact hoff)
      rw [g3] at g2
      rw [List.getElem?_eq_getElem (show j < cs.length by omega), List.getElem?_eq_getElem (show j < cs'.length by omega)]
      exact g2.symm
    · rw [List.getElem?_eq_none (by omega), List.getElem?_eq_none (by omega)]
  rw [← e]; exact hr'
/-- append(v, s...) of a slice whose elements are steady. -/
theorem RowO.appS {t : TypeId} {z : Value} {bytes : Nat} (ht : ElTy R t e z bytes) (h : RowO R e S B W v xs) {A : Option Addr} {m c : Nat} {ys : List α} (hy : StabS R (S ++ ownL v) W A m c ys) (ho : Off (S ++ ownL v) A m) (hs : xs.length + m ≤ 1099511627776) (ty : TypeId) :
    ∃ v' w', (Builtin.append_ #[t, t] ty #[v, .slice A m c]).run Try.prog W = .ok v' w' ∧ RowO R e S B w' v' (xs ++ ys) ∧ W.grownBy w' v.ownBlock ∧ (∀ k, v'.ownBlock = some k → v.ownBlock = some k ∨ W.heap.size ≤ k) := by
  have hyl := hy.now.len
  rcases A with _ | ad
  · have h0 : m = 0 := by
      rcases Nat.eq_zero_or_pos m with h0 | h0
      · exact h0
      · obtain ⟨ad, he, _⟩ := hy.now.2.2.2 h0; cases he
    subst h0
    have hys : ys = [] := List.eq_nil_of_length_eq_zero hyl.symm
    subst hys
    obtain ⟨i0, hi0, hz0, hz1, hz2⟩ := info_parts ht.info
    refine ⟨v, W, ?_, by simpa using h, grown_refl _ _, fun k hk => .inl hk⟩
    obtain ⟨_, cs, h2, _⟩ := h
    rcases h2.2 with ⟨rfl, _⟩ | ⟨g, cap, cur, rfl, _, _, hnc, _⟩
    · simp [Builtin.append_, run_underlying (P := Try.prog) ht.und, sizeOf, typeInfo, hi0, Builtin.lenOf, Builtin.firstCells]
    · simp [Builtin.append_, run_underlying (P := Try.prog) ht.und, sizeOf, typeInfo, hi0, Builtin.lenOf, Builtin.firstCells, hnc, storeCells]
  · by_cases h0 : m = 0
    · subst h0
      have hys : ys = [] := List.eq_nil_of_length_eq_zero hyl.symm
      subst hys
      obtain ⟨v', w', h1, h2, h3, h4⟩ := RowK.appN ht h ad 0 c [] [] rfl (by simp) (by simp) (by simp) (by simp) hs ty
      exact ⟨v', w', h1, RowO.of h2 (fun k hk => .inl (List.mem_append.2 (.inl hk))), h3, h4⟩
    · obtain ⟨news, n1, n2, n3, n4⟩ := flat_cells (R := stabR R (S ++ ownL v) W) (w := W) (ad := ad) ys 0 (fun i x hx => by
        obtain ⟨cs, q1, q2⟩ := hy.elems ho rfl (by omega) i x hx
        exact ⟨cs, q1, fun j u hu => by rw [Nat.zero_add]; exact q2 j u hu⟩)
      obtain ⟨v', w', h1, h2, h3, h4⟩ := RowK.appN ht h ad m c news ys hyl (by rw [n1, hyl]; rfl) (fun j u hu => by have := n2 j u hu; rwa [Nat.zero_add] at this) n3 n4 hs ty
      exact ⟨v', w', h1, RowO.of h2 (fun k hk => .inl (List.mem_append.2 (.inl hk))), h3, h4⟩
end
end Go.Proofs.Ytbfbkpoakmnlpaa

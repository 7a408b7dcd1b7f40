/- Rows of the call's own, generic over the element type: the elements read in every world that keeps what lay in w0 but for the blocks S. -/
import Derived.Test.YtbfbkpoakmnlpaaCln
namespace Go.Proofs.Ytbfbkpoakmnlpaa
open Go.RowKit

theorem Kept.thn {S T : List Nat} {w a b : World} (h : Kept S w a) (k : Kept T a b) (hT : ∀ q ∈ T, q ∈ S ∨ w.heap.size ≤ q) : Kept S w b :=
  ⟨k.os.trans h.os, k.tape.trans h.tape, k.output.trans h.output, Nat.le_trans h.size k.size, fun i hi hs => (k.block i (Nat.lt_of_lt_of_le hi h.size) (fun e => by
    rcases hT i e with h1 | h1
    · exact hs h1
    · omega)).trans (h.block i hi hs)⟩
theorem Kept.bel0 {w a : World} (h : Kept [] w a) : Below w.heap.size w a := ⟨h.os, h.tape, h.output, h.size, fun k hk => h.block k hk (by simp)⟩
section
variable {α : Type} {R : Rep α} {e : TypeId} {w0 W : World} {S : List Nat} {B : Nat} {v : Value} {xs : List α}
/-- The cells c read as x in every world that keeps w0 but for the blocks S. -/
def Stab (R : Rep α) (S : List Nat) (w0 : World) (c : List Value) (x : α) : Prop := ∀ W, Kept S w0 W → R.is W c x
theorem Stab.now {c : List Value} {x : α} (h : Stab R S w0 c x) : R.is w0 c x := h w0 (Kept.refl _ _)
theorem Stab.go {c : List Value} {x : α} (h : Stab R S w0 c x) {T : List Nat} (hk : Kept S w0 W) (hT : ∀ k ∈ T, k ∈ S ∨ w0.heap.size ≤ k) : Stab R T W c x := fun V hV => h V (hk.thn hV hT)
theorem Stab.of {c : List Value} {x : α} (h : R.is w0 c x) : Stab R [] w0 c x := fun _ hk => R.ext h hk.bel0
/-- The slice reads as xs in every world that keeps w0 but for the blocks S. -/
def StabS (R : Rep α) (S : List Nat) (w0 : World) (A : Option Addr) (l c : Nat) (xs : List α) : Prop := ∀ W, Kept S w0 W → SlIs R W A l c xs
theorem StabS.now {A : Option Addr} {l c : Nat} (h : StabS R S w0 A l c xs) : SlIs R w0 A l c xs := h w0 (Kept.refl _ _)
theorem StabS.go {A : Option Addr} {l c : Nat} (h : StabS R S w0 A l c xs) {T : List Nat} (hk : Kept S w0 W) (hT : ∀ k ∈ T, k ∈ S ∨ w0.heap.size ≤ k) : StabS R T W A l c xs := fun V hV => h V (hk.thn hV hT)
theorem StabS.of {A : Option Addr} {l c : Nat} (h : SlIs R w0 A l c xs) : StabS R [] w0 A l c xs := fun _ hk => h.ext hk.bel0
theorem StabS.nil (R : Rep α) (S : List Nat) (w0 : World) : StabS R S w0 none 0 0 ([] : List α) := fun _ _ => SlIs.nil _ _
theorem StabS.ints {A : Option Addr} {l c : Nat} {xs : List Int} (h : SlIs intR w0 A l c xs) (ho : Off S A l) : StabS intR S w0 A l c xs := fun _ hk => h.keptM hk ho
theorem StabS.slice {A : Option Addr} {l c : Nat} (h : StabS R S w0 A l c xs) : Stab (slR R) S w0 [.slice A l c] xs := fun V hV => ⟨A, l, c, rfl, h V hV⟩
/-- A rule whose lists are steady. -/
theorem Stab.rule {r : GRule} {hA bA wA : Option Addr} {hl hc bl bc wl wc : Nat} (h1 : StabS intR S w0 hA hl hc r.head) (h2 : I64 r.bound) (h3 : StabS intR S w0 bA bl bc r.body) (h4 : StabS intR S w0 wA wl wc r.w) :
    Stab ruleR S w0 [.bool r.choice, .slice hA hl hc, .bool r.sum, .int .i64 r.bound, .slice bA bl bc, .slice wA wl wc] r := fun V hV => ⟨_, _, _, rfl, ⟨_, _, _, rfl, h1 V hV⟩, h2, ⟨_, _, _, rfl, h3 V hV⟩, ⟨_, _, _, rfl, h4 V hV⟩⟩
theorem Stab.level {r : GMin} {bA wA : Option Addr} {bl bc wl wc : Nat} (h2 : I64 r.level) (h3 : StabS intR S w0 bA bl bc r.lits) (h4 : StabS intR S w0 wA wl wc r.w) :
    Stab minR S w0 [.int .i64 r.level, .slice bA bl bc, .slice wA wl wc] r := fun V hV => ⟨_, _, rfl, h2, ⟨_, _, _, rfl, h3 V hV⟩, ⟨_, _, _, rfl, h4 V hV⟩⟩
/-- The row v, from block B on, reads as xs; its elements are steady over w0 but for S. -/
def RowK (R : Rep α) (e : TypeId) (w0 : World) (S : List Nat) (B : Nat) (W : World) (v : Value) (xs : List α) : Prop :=
  (Kept S w0 W ∧ B ≤ W.heap.size ∧ ∀ k, v.ownBlock = some k → k ∈ S ∨ w0.heap.size ≤ k) ∧ ∃ cs, W.ownsRow B e R.size v xs.length cs ∧ ∀ i x, xs[i]? = some x → Stab R S w0 ((cs.drop (i * R.size)).take R.size) x
theorem RowK.keep (h : RowK R e w0 S B W v xs) : Kept S w0 W := h.1.1
theorem RowK.lt (h : RowK R e w0 S B W v xs) {k : Nat} (hk : v.ownBlock = some k) : B ≤ k ∧ k < W.heap.size := by
  obtain ⟨_, cs, h2, _⟩ := h; exact h2.lt k hk
theorem RowK.nil (hk : Kept S w0 W) (h2 : B ≤ W.heap.size) : RowK R e w0 S B W (.slice none 0 0) ([] : List α) := ⟨⟨hk, h2, by simp [Value.ownBlock]⟩, [], World.ownsRow_nil W _ _ _, fun i x h => by simp at h⟩
/-- From the call's own row over w0, where nothing that was there has changed. -/
theorem OwnB.row (h : OwnB R e w0 B W v xs) : RowK R e w0 [] B W v xs := by
  obtain ⟨⟨h1, h4, h5⟩, cs, h2, h3⟩ := h
  exact ⟨⟨Kept.of_below h1 _, h5, fun k hk => .inr (Nat.le_trans h4 (h2.lt k hk).1)⟩, cs, h2, fun i x hx => Stab.of (h3 i x hx)⟩
/-- The same row seen from now on: T are the blocks that will be written, each of them written before or new. -/
theorem RowK.now (h : RowK R e w0 S B W v xs) {T : List Nat} (hT : ∀ k ∈ T, k ∈ S ∨ w0.heap.size ≤ k) (hv : ∀ k, v.ownBlock = some k → k ∈ T) : RowK R e W T B W v xs := by
  obtain ⟨⟨h1, h4, h5⟩, cs, h2, h3⟩ := h
  exact ⟨⟨Kept.refl _ _, h4, fun k hk => .inl (hv k hk)⟩, cs, h2, fun i x hx => (h3 i x hx).go h1 hT⟩
/-- Blocks T have been written, S or new ones; the row's is none of them. -/
theorem RowK.kept {W' : World} {T : List Nat} (h : RowK R e w0 S B W v xs) (hk : Kept T W W') (hT : ∀ k ∈ T, (k ∈ S ∨ w0.heap.size ≤ k) ∧ v.ownBlock ≠ some k) : RowK R e w0 S B W' v xs := by
  obtain ⟨⟨h1, h4, h5⟩, cs, h2, h3⟩ := h
  exact ⟨⟨h1.thn hk (fun q hq => (hT q hq).1), Nat.le_trans h4 hk.size, h5⟩, cs, ownsRow_keptS h2 hk (fun k hv hm => (hT k hm).2 hv), h3⟩
theorem RowK.bel {W' : World} (h : RowK R e w0 S B W v xs) (hb : Below W.heap.size W W') : RowK R e w0 S B W' v xs := h.kept (Kept.of_below hb []) (by simp)
theorem RowK.sl (h : RowK R e w0 S B W v xs) (hs : xs.length ≤ 17592186044416) : ∃ A c, v = .slice A xs.length c ∧ SlIs R W A xs.length c xs := by
  obtain ⟨⟨h1, _⟩, cs, h2, h3⟩ := h
  exact SlIs.of_own h2 rfl hs (fun i x hx => h3 i x hx W h1)
/-- The row as a slice, once its own block is written no more. -/
theorem RowK.stab (h : RowK R e w0 S B W v xs) (hs : xs.length ≤ 17592186044416) {T : List Nat} (hT : ∀ k ∈ T, k ∈ S ∨ w0.heap.size ≤ k) (hv : ∀ k, v.ownBlock = some k → k ∉ T) : ∃ A c, v = .slice A xs.length c ∧ StabS R T W A xs.length c xs := by
  obtain ⟨A, c, hve, _⟩ := h.sl hs
  refine ⟨A, c, hve, fun V hV => ?_⟩
  have hT' : ∀ k ∈ T, (k ∈ S ∨ w0.heap.size ≤ k) ∧ v.ownBlock ≠ some k := fun k hk => ⟨hT k hk, fun e => hv k e hk⟩
  obtain ⟨A', c', e2, h3⟩ := (h.kept hV hT').sl hs
  rw [hve] at e2
  injection e2 with e2 e3 e4
  subst e2 e4
  exact h3
/-- append(v, ..): the new cells news lie at A in the present world and are steady. -/
theorem RowK.appN {t : TypeId} {z : Value} {bytes : Nat} (ht : ElTy R t e z bytes) (h : RowK R e w0 S B W v xs) (ad : Addr) (m c : Nat) (news : List Value) (ys : List α) (hm : m = ys.length) (hl : news.length = m * R.size) (hn : ∀ j u, news[j]? = some u → W.cell? (ad.add j) = some u) (h1 : ∀ u ∈ news, u.oneCell' = true)
    (hr : ∀ i x, ys[i]? = some x → Stab R S w0 ((news.drop (i * R.size)).take R.size) x) (hs : xs.length + m ≤ 1099511627776) (ty : TypeId) :
    ∃ v' w', (Builtin.append_ #[t, t] ty #[v, .slice (some ad) m c]).run Try.prog W = .ok v' w' ∧ RowK R e w0 S B w' v' (xs ++ ys) ∧ W.grownBy w' v.ownBlock ∧ (∀ k, v'.ownBlock = some k → v.ownBlock = some k ∨ W.heap.size ≤ k) := by
  obtain ⟨⟨hb, h4, h5⟩, cs, h2, h3⟩ := h
  obtain ⟨i0, hi0, hz0, hz1, hz2⟩ := info_parts ht.info
  have hcl : cs.length = xs.length * R.size := h2.1
  have hby : (xs.length + m) * bytes ≤ 140737488355328 := Nat.le_trans (Nat.mul_le_mul hs ht.small) (by omega)
  obtain ⟨v', w', hrun, k2, k3, _, k5⟩ := run_append_own_at (P := Try.prog) W B t ty e i0 _ R.size bytes ht.und hi0 hz0 hz1 hz2 ht.zs R.pos v xs.length cs h2 ad m c news hl hn h1 (by unfold maxLen; omega) hby h4
  have hat : ∀ k, v'.ownBlock = some k → v.ownBlock = some k ∨ W.heap.size ≤ k := fun k hk => by
    rcases k5 with k5 | k5 <;> rw [k5] at hk
    · exact .inl hk
    · simp at hk; exact .inr (by omega)
  have hk1 : Kept S w0 w' := hb.thn (grown_kept k3) (fun q hq => h5 q (by simpa using hq))
  refine ⟨v', w', hrun, ⟨⟨hk1, Nat.le_trans h4 k3.size, fun k hk => ?_⟩, cs ++ news, by rw [List.length_append, ← hm]; exact k2, fun i x hx => ?_⟩, k3, hat⟩
  · rcases hat k hk with h6 | h6
    · exact h5 k h6
    · exact .inr (Nat.le_trans hb.size h6)
  · rcases Nat.lt_or_ge i xs.length with hi | hi
    · rw [List.getElem?_append_left hi] at hx
      have hle : (i + 1) * R.size ≤ xs.length * R.size := Nat.mul_le_mul_right _ hi
      rw [Nat.add_mul] at hle
      rw [List.drop_append_of_le_length (by omega), List.take_append_of_le_length (by rw [List.length_drop]; omega)]
      exact h3 i x hx
    · rw [List.getElem?_append_right hi] at hx
      have := hr _ x hx
      have hle : xs.length * R.size ≤ i * R.size := Nat.mul_le_mul_right _ hi
      rw [List.drop_append, List.drop_of_length_le (by omega), List.nil_append, hcl, ← Nat.sub_mul]
      exact this
/-- append(v, x), the new element being boxed first. -/
theorem RowK.app1 {t : TypeId} {z : Value} {bytes : Nat} (ht : ElTy R t e z bytes) (h : RowK R e w0 S B W v xs) (c0 : List Value) (x : α) (hx : Stab R S w0 c0 x) (hs : xs.length < 1099511627776) (ty : TypeId) :
    ∃ v' w', (Builtin.append_ #[t, t] ty #[v, .slice (some ⟨W.heap.size, 0, none⟩) 1 1]).run Try.prog (W.alloc (.cells c0.toArray e)) = .ok v' w' ∧ RowK R e w0 S B w' v' (xs ++ [x]) ∧ W.grownBy w' v.ownBlock ∧ (∀ k, v'.ownBlock = some k → v.ownBlock = some k ∨ W.heap.size ≤ k) := by
  have hl := R.len hx.now
  obtain ⟨v', w', hrun, h1, h2, h3⟩ := (h.bel (bel_alloc W (.cells c0.toArray e))).appN ht ⟨W.heap.size, 0, none⟩ 1 1 c0 [x] rfl (by omega)
    (fun j u hu => by rw [add_none, Nat.zero_add, (Blk.new W e c0.toArray).cell]; simpa using hu) (R.one hx.now)
    (fun i y hy => by
      match i, hy with
      | 0, hy => simp at hy; subst hy; rw [Nat.zero_mul, List.drop_zero, List.take_of_length_le (by omega)]; exact hx
      | i + 1, hy => simp at hy) (by omega) ty
  refine ⟨v', w', hrun, h1, ⟨h2.os, h2.tape, h2.output, Nat.le_trans (by simp) h2.size, fun k hk hne => ?_⟩, fun k hk => ?_⟩
  · rw [h2.block k (by simp; omega) hne]; exact Below.heap_alloc W _ k hk
  · rcases h3 k hk with h5 | h5
    · exact .inl h5
    · simp at h5; exact .inr (by omega)
/-- An element is written anew, cell by cell; each cell it had but the k-th stays. -/
theorem RowK.cellAt (h : RowK R e w0 S B W v xs) {i : Nat} {x : α} (hx : xs[i]? = some x) : ∃ g cap c, v = .slice (some ⟨g, 0, none⟩) xs.length cap ∧ Stab R S w0 c x ∧ c.length = R.size ∧ (∀ j u, c[j]? = some u → W.cell? ⟨g, i * R.size + j, none⟩ = some u) ∧ (∀ j, W.frozen? ⟨g, j, none⟩ = false) := by
  obtain ⟨⟨h1, h4, h5⟩, cs, h2, h3⟩ := h
  have hi : i < xs.length := (List.getElem?_eq_some_iff.1 hx).1
  rcases h2.2 with ⟨_, h0⟩ | ⟨g, cap, cur, rfl, hb, hh, hlc, hcm, hcs, htk⟩
  · omega
  · have hcl : cs.length = xs.length * R.size := h2.1
    have hle : (i + 1) * R.size ≤ xs.length * R.size := Nat.mul_le_mul_right _ hi
    rw [Nat.add_mul] at hle
    refine ⟨g, cap, _, rfl, h3 i x hx, by rw [List.length_take, List.length_drop]; omega, fun j u hu => ?_, fun j => by simp [World.frozen?, hh]⟩
    rw [List.getElem?_take] at hu
    split at hu
    · rw [List.getElem?_drop] at hu
      have h6 := h2.cells (g := g) rfl _ u hu
      rw [add_none, Nat.zero_add] at h6
      exact h6
    · cases hu
/-- A cell of an element is written. -/
theorem RowK.put {g n cap : Nat} (h : RowK R e w0 S B W (.slice (some ⟨g, 0, none⟩) n cap) xs) {i j : Nat} {x x' : α} (hx : xs[i]? = some x) (hj : j < R.size) (u : Value)
    (hc : ∀ c, Stab R S w0 c x → c.length = R.size → Stab R S w0 (c.set j u) x') : RowK R e w0 S B (W.setCell ⟨g, i * R.size + j, none⟩ u) (.slice (some ⟨g, 0, none⟩) n cap) (xs.set i x') := by
  obtain ⟨⟨h1, h4, h5⟩, cs, h2, h3⟩ := h
  have hi : i < xs.length := (List.getElem?_eq_some_iff.1 hx).1
  have hn : n = xs.length := by
    rcases h2.2 with ⟨hv, h0⟩ | ⟨_, _, _, hv, _⟩
    · cases hv
    · injection hv
  subst hn
  have hs := h2.stored (i * R.size + j) u
  have hcl : cs.length = xs.length * R.size := h2.1
  have hle : (i + 1) * R.size ≤ xs.length * R.size := Nat.mul_le_mul_right _ hi
  rw [Nat.add_mul] at hle
  refine ⟨⟨h1.thn (grown_kept (v := .slice (some ⟨g, 0, none⟩) xs.length cap) hs.2) (fun q hq => h5 q (by simpa using hq)), by simpa [World.setCell] using h4, h5⟩, _, by rw [List.length_set]; exact hs.1, fun k y hy => ?_⟩
  by_cases hk : k = i
  · subst hk
    rw [List.getElem?_set_self hi] at hy
    simp at hy; subst hy
    have e1 : ((cs.set (k * R.size + j) u).drop (k * R.size)).take R.size = ((cs.drop (k * R.size)).take R.size).set j u := by
      rw [List.drop_set, if_neg (by omega), show k * R.size + j - k * R.size = j by omega, List.take_set]
    rw [e1]
    exact hc _ (h3 k x hx) (by rw [List.length_take, List.length_drop]; omega)
  · rw [List.getElem?_set_ne (fun e => hk e.symm)] at hy
    have hkl : k < xs.length := (List.getElem?_eq_some_iff.1 hy).1
    have e1 : ((cs.set (i * R.size + j) u).drop (k * R.size)).take R.size = (cs.drop (k * R.size)).take R.size := by
      rcases Nat.lt_or_ge k i with hlt | hge
      · have h9 : (k + 1) * R.size ≤ i * R.size := Nat.mul_le_mul_right _ hlt
        rw [Nat.add_mul] at h9
        rw [List.drop_set, if_neg (by omega), List.take_set_of_le (by omega)]
      · have h9 : (i + 1) * R.size ≤ k * R.size := Nat.mul_le_mul_right _ (by omega)
        rw [Nat.add_mul] at h9
        rw [List.drop_set, if_pos (by omega)]
    rw [e1]
    exact h3 k y hy
end
theorem Stab.head {w0 : World} {S : List Nat} {c : List Value} {x : GRule} {A : Option Addr} {l k : Nat} (h : Stab ruleR S w0 c x) (hs : StabS intR S w0 A l k x.head) : Stab ruleR S w0 (c.set 1 (.slice A l k)) x := fun V hV => by
  obtain ⟨hv, bv, wv, rfl, h1, h2, h3, h4⟩ := h V hV
  exact ⟨_, bv, wv, rfl, ⟨_, _, _, rfl, hs V hV⟩, h2, h3, h4⟩
theorem Stab.body {w0 : World} {S : List Nat} {c : List Value} {x : GRule} {A : Option Addr} {l k : Nat} (h : Stab ruleR S w0 c x) (hs : StabS intR S w0 A l k x.body) : Stab ruleR S w0 (c.set 4 (.slice A l k)) x := fun V hV => by
  obtain ⟨hv, bv, wv, rfl, h1, h2, h3, h4⟩ := h V hV
  exact ⟨hv, _, wv, rfl, h1, h2, ⟨_, _, _, rfl, hs V hV⟩, h4⟩
theorem Stab.wt {w0 : World} {S : List Nat} {c : List Value} {x : GRule} {A : Option Addr} {l k : Nat} (h : Stab ruleR S w0 c x) (hs : StabS intR S w0 A l k x.w) : Stab ruleR S w0 (c.set 5 (.slice A l k)) x := fun V hV => by
  obtain ⟨hv, bv, wv, rfl, h1, h2, h3, h4⟩ := h V hV
  exact ⟨hv, bv, _, rfl, h1, h2, h3, ⟨_, _, _, rfl, hs V hV⟩⟩
theorem Stab.lits {w0 : World} {S : List Nat} {c : List Value} {x : GMin} {A : Option Addr} {l k : Nat} (h : Stab minR S w0 c x) (hs : StabS intR S w0 A l k x.lits) : Stab minR S w0 (c.set 1 (.slice A l k)) x := fun V hV => by
  obtain ⟨bv, wv, rfl, h2, h3, h4⟩ := h V hV
  exact ⟨_, wv, rfl, h2, ⟨_, _, _, rfl, hs V hV⟩, h4⟩
theorem Stab.mwt {w0 : World} {S : List Nat} {c : List Value} {x : GMin} {A : Option Addr} {l k : Nat} (h : Stab minR S w0 c x) (hs : StabS intR S w0 A l k x.w) : Stab minR S w0 (c.set 2 (.slice A l k)) x := fun V hV => by
  obtain ⟨bv, wv, rfl, h2, h3, h4⟩ := h V hV
  exact ⟨bv, _, rfl, h2, h3, ⟨_, _, _, rfl, hs V hV⟩⟩
theorem set_same {α : Type} {xs : List α} {i : Nat} {x : α} (h : xs[i]? = some x) : xs.set i x = xs := by
  obtain ⟨hi, rfl⟩ := List.getElem?_eq_some_iff.1 h
  exact List.set_getElem_self hi
end Go.Proofs.Ytbfbkpoakmnlpaa

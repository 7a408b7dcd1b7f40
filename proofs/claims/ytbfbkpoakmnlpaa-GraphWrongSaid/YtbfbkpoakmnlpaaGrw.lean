/- Rows of ints that a function appends to, in an array that it has made (graphs). -/
import Derived.Test.YtbfbkpoakmnlpaaG2
import Derived.Test.YtbfbkpoakmnlpaaRd7
namespace Go.Proofs.Ytbfbkpoakmnlpaa
open Go.RowKit

structure GrowI (w : World) (base ub n : Nat) (U : Nat → List Int) (us : Nat → Value) (ls : Nat → Nat) : Prop where
  blk : Blk w ub 23 (valCells n us)
  own : ∀ a, a < n → OwnI w base (us a) (ls a) (U a)
  ne : ∀ a b k, a < n → b < n → a ≠ b → (us a).ownBlock = some k → (us b).ownBlock ≠ some k
def updG (U : Nat → List Int) (a : Nat) (l : List Int) : Nat → List Int := fun j => if j = a then l else U j
theorem GrowI.cell {w : World} {base ub n : Nat} {U : Nat → List Int} {us : Nat → Value} {ls : Nat → Nat} (h : GrowI w base ub n U us ls) {a : Nat} (ha : a < n) : w.cell? ⟨ub, a, none⟩ = some (us a) := by
  rw [h.blk.cell, valCells_get _ _ _ ha]
/-- Worlds in which the array and the rows are as they were. -/
theorem GrowI.keptS {w w' : World} {base ub n : Nat} {U : Nat → List Int} {us : Nat → Value} {ls : Nat → Nat} {S : List Nat} (h : GrowI w base ub n U us ls) (hk : Kept S w w') (hu : ub ∉ S) (hS : ∀ k ∈ S, k < base) : GrowI w' base ub n U us ls :=
  ⟨hk.blk h.blk hu, fun a ha => (h.own a ha).keptS hk (fun k hq hm => by
    have h1 := ((h.own a ha).2.lt k hq).1
    have h2 := hS k hm
    omega), h.ne⟩
theorem GrowI.bel {w w' : World} {base ub n : Nat} {U : Nat → List Int} {us : Nat → Value} {ls : Nat → Nat} (h : GrowI w base ub n U us ls) (hb : Below w.heap.size w w') : GrowI w' base ub n U us ls :=
  h.keptS ((Kept.refl [] w).bel hb) (by simp) (by simp)
/-- uses[a] = append(uses[a], p). -/
theorem GrowI.app {w w' : World} {base ub n : Nat} {U : Nat → List Int} {us : Nat → Value} {ls : Nat → Nat} (h : GrowI w base ub n U us ls) (hub : ub < base) {a : Nat} (ha : a < n) {v' : Value} {l' : Nat} {xs : List Int}
    (ho : OwnI w' base v' l' xs) (hg : w.grownBy w' (us a).ownBlock) (hv : ∀ k, v'.ownBlock = some k → (us a).ownBlock = some k ∨ w.heap.size ≤ k) :
    GrowI (w'.setCell ⟨ub, a, none⟩ v') base ub n (updG U a xs) (fun j => if j = a then v' else us j) (fun j => if j = a then l' else ls j) := by
  have hk : Kept [ub] w' (w'.setCell ⟨ub, a, none⟩ v') := (Kept.refl [ub] w').set (.inl (by simp)) _
  have hrow : some ub ≠ (us a).ownBlock := fun e => by have := ((h.own a ha).2.lt ub e.symm).1; omega
  refine ⟨?_, fun b hb => ?_, fun b c k hb hc hne hq => ?_⟩
  · have := (h.blk.grown hg hrow).set_ a v'
    rw [valCells_set] at this; exact this
  · by_cases e : b = a
    · subst e
      simp only [updG, if_true]
      exact ho.keptS hk (fun k hq hm => by have := (ho.2.lt k hq).1; simp at hm; omega)
    · simp only [updG, e, if_false]
      refine ((h.own b hb).kept hg ?_).keptS hk (fun k hq hm => by have := ((h.own b hb).2.lt k hq).1; simp at hm; omega)
      cases hq : (us b).ownBlock with
      | none => exact .inl rfl
      | some k => exact .inr fun e2 => h.ne b a k hb ha e hq e2.symm
  · by_cases e1 : b = a
    · have e2 : ¬ c = a := fun e2 => hne (e1.trans e2.symm)
      simp only [e1, e2, if_true, if_false] at hq ⊢
      intro hq2
      rcases hv k hq with h1 | h1
      · exact h.ne a c k ha hc (fun e3 => e2 e3.symm) h1 hq2
      · have := ((h.own c hc).2.lt k hq2).2; omega
    · simp only [e1, if_false] at hq ⊢
      by_cases e2 : c = a
      · simp only [e2, if_true]
        intro hq2
        rcases hv k hq2 with h1 | h1
        · exact h.ne b a k hb ha e1 hq h1
        · have := ((h.own b hb).2.lt k hq).2; omega
      · simp only [e2, if_false]; exact h.ne b c k hb hc hne hq
theorem info_rowI : (Try.prog.info? 23).map (fun i => (i.zero, i.size, i.bytes)) = some (some (.slice none 0 0), 1, 24) := by kernel_rfl
theorem rows_eq (n : Nat) : madeCells #[Value.slice none 0 0] n = valCells n (fun _ => .slice none 0 0) := by
  unfold madeCells valCells
  apply Array.ext
  · simp
  · intro i h1 h2
    simp [Nat.mod_one]
/-- make(graph, n), make([][]int, n). -/
theorem make_graph (n : Nat) (hn : n ≤ 4398046511104) (W : World) :
    (Instr.makeSlice 62 (.int .i64 (n : Int)) (.int .i64 (n : Int))).run Try.prog W = .ok (.slice (some ⟨W.heap.size, 0, none⟩) n n) (W.alloc (.cells (valCells n (fun _ => .slice none 0 0)) 23)) := by
  have h := run_make_row' (P := Try.prog) 62 23 (.slice none 0 0) 24 Try.underlying62 info_rowI rfl .i64 .i64 n (by omega) (by omega) W
  rw [h, rows_eq]
theorem make_intss (n : Nat) (hn : n ≤ 4398046511104) (W : World) :
    (Instr.makeSlice 34 (.int .i64 (n : Int)) (.int .i64 (n : Int))).run Try.prog W = .ok (.slice (some ⟨W.heap.size, 0, none⟩) n n) (W.alloc (.cells (valCells n (fun _ => .slice none 0 0)) 23)) := by
  have h := run_make_row' (P := Try.prog) 34 23 (.slice none 0 0) 24 Try.underlying34 info_rowI rfl .i64 .i64 n (by omega) (by omega) W
  rw [h, rows_eq]
theorem GrowI.new {w : World} {ub n base : Nat} (h : Blk w ub 23 (valCells n (fun _ => .slice none 0 0))) : GrowI w base ub n (fun _ => []) (fun _ => .slice none 0 0) (fun _ => 0) :=
  ⟨h, fun _ _ => OwnI.nil w base, fun _ _ _ _ _ _ hq => by simp [Value.ownBlock] at hq⟩
/-- The array as a slice of slices. -/
theorem GrowI.sl {w : World} {base ub n : Nat} {U : Nat → List Int} {us : Nat → Value} {ls : Nat → Nat} (h : GrowI w base ub n U us ls) (hn : n ≤ 100000) (hl : ∀ a, a < n → ls a ≤ 17592186044416) (h64 : ∀ a, a < n → ∀ x ∈ U a, I64 x) :
    SlIs (slR intR) w (some ⟨ub, 0, none⟩) n n ((List.range n).map U) := by
  refine ⟨by simp, Nat.le_refl _, ⟨by unfold maxLen; omega, by omega⟩, fun _ => ⟨_, rfl, h.blk.lt, fun i x hx => ?_⟩⟩
  have hi : i < n := by have := (List.getElem?_eq_some_iff.1 hx).1; simpa using this
  have hx2 : x = U i := by
    rw [List.getElem?_map, List.getElem?_range hi] at hx
    simpa using hx.symm
  subst hx2
  obtain ⟨A, c, e, s⟩ := (h.own i hi).sl (hl i hi) (h64 i hi)
  refine ⟨[.slice A (ls i) c], ⟨A, ls i, c, rfl, s⟩, fun j u hu => ?_⟩
  match j, hu with
  | 0, hu =>
    rw [add_none, h.blk.cell, Nat.zero_add]
    have : u = us i := by rw [e]; simpa using hu.symm
    subst this
    simpa [slR] using valCells_get n us i hi
  | j + 1, hu => simp at hu
end Go.Proofs.Ytbfbkpoakmnlpaa

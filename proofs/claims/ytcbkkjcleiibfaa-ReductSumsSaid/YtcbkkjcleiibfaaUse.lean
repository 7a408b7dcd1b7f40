/- The rows of uses in reduct.Rounds: an array of slices that the function appends to. -/
import Derived.Test.YtcbkkjcleiibfaaFrm
import Derived.Test.YtcbkkjcleiibfaaRnd
namespace Go.Proofs.Ytcbkkjcleiibfaa
open Go.RowKit

def valCells (n : Nat) (us : Nat → Value) : Array Value := Array.ofFn (fun i : Fin n => us i)
theorem valCells_get (n : Nat) (us : Nat → Value) (i : Nat) (h : i < n) : (valCells n us)[i]? = some (us i) := by
  unfold valCells; simp [h]
theorem valCells_set (n : Nat) (us : Nat → Value) (i : Nat) (v : Value) : (valCells n us).setIfInBounds i v = valCells n (fun j => if j = i then v else us j) := by
  unfold valCells
  apply Array.ext
  · simp
  · intro j h1 h2
    simp only [Array.size_setIfInBounds, Array.size_ofFn] at h1
    rw [Array.getElem_setIfInBounds (by simpa using h1)]
    simp only [Array.getElem_ofFn]
    by_cases e : i = j
    · subst e; simp
    · rw [if_neg e, if_neg (Ne.symm e)]
structure UsesAt (w : World) (base ub n : Nat) (U : Nat → List (Int × Int)) (us : Nat → Value) (ls : Nat → Nat) : Prop where
  blk : Blk w ub 62 (valCells n us)
  own : ∀ a, a < n → OwnP w base (us a) (ls a) (U a)
  ne : ∀ a b k, a < n → b < n → a ≠ b → (us a).ownBlock = some k → (us b).ownBlock ≠ some k
def updU (U : Nat → List (Int × Int)) (a : Nat) (l : List (Int × Int)) : Nat → List (Int × Int) := fun j => if j = a then l else U j
theorem UsesAt.cell {w : World} {base ub n : Nat} {U : Nat → List (Int × Int)} {us : Nat → Value} {ls : Nat → Nat} (h : UsesAt w base ub n U us ls) {a : Nat} (ha : a < n) : w.cell? ⟨ub, a, none⟩ = some (us a) := by
  rw [h.blk.cell, valCells_get _ _ _ ha]
/-- Worlds in which the array and the rows are as they were. -/
theorem UsesAt.keptS {w w' : World} {base ub n : Nat} {U : Nat → List (Int × Int)} {us : Nat → Value} {ls : Nat → Nat} {S : List Nat} (h : UsesAt w base ub n U us ls) (hk : Kept S w w') (hu : ub ∉ S) (hS : ∀ k ∈ S, k < base) : UsesAt w' base ub n U us ls :=
  ⟨hk.blk h.blk hu, fun a ha => (h.own a ha).keptS hk (fun k hq hm => by
    have h1 := ((h.own a ha).2.lt k hq).1
    have h2 := hS k hm
    omega), h.ne⟩
theorem UsesAt.bel {w w' : World} {base ub n : Nat} {U : Nat → List (Int × Int)} {us : Nat → Value} {ls : Nat → Nat} (h : UsesAt w base ub n U us ls) (hb : Below w.heap.size w w') : UsesAt w' base ub n U us ls :=
  h.keptS ((Kept.refl [] w).bel hb) (by simp) (by simp)
/-- uses[a] = append(uses[a], p). -/
theorem UsesAt.app {w w' : World} {base ub n : Nat} {U : Nat → List (Int × Int)} {us : Nat → Value} {ls : Nat → Nat} (h : UsesAt w base ub n U us ls) (hub : ub < base) {a : Nat} (ha : a < n) {v' : Value} {l' : Nat} {xs : List (Int × Int)}
    (ho : OwnP w' base v' l' xs) (hg : w.grownBy w' (us a).ownBlock) (hv : ∀ k, v'.ownBlock = some k → (us a).ownBlock = some k ∨ w.heap.size ≤ k) :
    UsesAt (w'.setCell ⟨ub, a, none⟩ v') base ub n (updU U a xs) (fun j => if j = a then v' else us j) (fun j => if j = a then l' else ls j) := by
  have hk : Kept [ub] w' (w'.setCell ⟨ub, a, none⟩ v') := (Kept.refl [ub] w').set (.inl (by simp)) _
  have hrow : some ub ≠ (us a).ownBlock := fun e => by have := ((h.own a ha).2.lt ub e.symm).1; omega
  refine ⟨?_, fun b hb => ?_, fun b c k hb hc hne hq => ?_⟩
  · have := (h.blk.grown hg hrow).set_ a v'
    rw [valCells_set] at this; exact this
  · by_cases e : b = a
    · subst e
      simp only [updU, if_true]
      exact ho.keptS hk (fun k hq hm => by have := (ho.2.lt k hq).1; simp at hm; omega)
    · simp only [updU, e, if_false]
      refine ((h.own b hb).kept hg ?_).keptS hk (fun k hq hm => by have := ((h.own b hb).2.lt k hq).1; simp at hm; omega)
      cases hq : (us b).ownBlock with
      | none => exact .inl rfl
      | some k => exact .inr fun e2 => h.ne b a k hb ha e hq e2.symm
  · by_cases e1 : b = a
    · have e2 : ¬ c = a := fun e2 => hne (e1.trans e2.symm)
      simp only [e1, e2, if_true, if_false] at hq ⊢
      intro hq2
      rcases hv k hq with h1 | h1
      · exact h.ne a c k ha hc (fun e3 => e2 e3.symm) h1 hq2
      · have := ((h.own c hc).2.lt k hq2).2; omega
    · simp only [e1, if_false] at hq ⊢
      by_cases e2 : c = a
      · simp only [e2, if_true]
        intro hq2
        rcases hv k hq2 with h1 | h1
        · exact h.ne b a k hb ha e1 hq h1
        · have := ((h.own b hb).2.lt k hq).2; omega
      · simp only [e2, if_false]; exact h.ne b c k hb hc hne hq
theorem usesGo_take (a : Int) : ∀ (rs : List GRule) (i0 i : Nat) (r : GRule), rs[i]? = some r → usesGo a i0 (rs.take (i + 1)) = usesGo a i0 (rs.take i) ++ usesI (i0 + i) a (bp r)
  | [], _, _, _, h => by simp at h
  | x :: rs, i0, 0, r, h => by simp at h; subst h; simp [usesGo]
  | x :: rs, i0, i + 1, r, h => by
    have ih := usesGo_take a rs (i0 + 1) i r (by simpa using h)
    rw [List.take_succ_cons, List.take_succ_cons, usesGo, usesGo, ih, List.append_assoc]
    congr 3; omega
theorem usesI_take (i : Nat) (a : Int) (l : List (Int × Int)) (k : Nat) (p : Int × Int) (h : l[k]? = some p) : usesI i a (l.take (k + 1)) = usesI i a (l.take k) ++ (if p.1 = a then [((i : Int), p.2)] else []) := by
  have e : l.take (k + 1) = l.take k ++ [p] := by rw [List.take_add_one, h]; rfl
  unfold usesI
  rw [e, List.filter_append, List.map_append]
  by_cases hp : p.1 = a <;> simp [hp]
/-- The rows while rule i is read, up to its k-th literal. -/
def rowsU (rs : List GRule) (i k : Nat) : Nat → List (Int × Int) := fun a => usesGo (a : Int) 0 (rs.take i) ++ (match rs[i]? with | some r => usesI i (a : Int) ((bp r).take k) | none => [])
theorem rowsU_zero (rs : List GRule) : rowsU rs 0 0 = fun _ => [] := by
  funext a; unfold rowsU; cases rs[0]? <;> simp [usesGo, usesI]
theorem rowsU_step {rs : List GRule} {i k : Nat} {r : GRule} {p : Int × Int} (hr : rs[i]? = some r) (hp : (bp r)[k]? = some p) (h0 : 0 ≤ p.1) : rowsU rs i (k + 1) = updU (rowsU rs i k) p.1.toNat (rowsU rs i k p.1.toNat ++ [((i : Int), p.2)]) := by
  funext a
  unfold updU rowsU
  simp only [hr]
  rw [usesI_take i (a : Int) (bp r) k p hp]
  by_cases e : a = p.1.toNat
  · have : p.1 = (a : Int) := by omega
    rw [if_pos e, if_pos this, ← e, List.append_assoc]
  · have : ¬ p.1 = (a : Int) := by omega
    rw [if_neg e, if_neg this, List.append_nil]
theorem rowsU_next {rs : List GRule} {i : Nat} {r : GRule} (hr : rs[i]? = some r) : rowsU rs i (bp r).length = rowsU rs (i + 1) 0 := by
  funext a
  unfold rowsU
  simp only [hr, List.take_length]
  rw [usesGo_take (a : Int) rs 0 i r hr, Nat.zero_add]
  cases rs[i + 1]? <;> simp [usesI]
theorem rowsU_end (rs : List GRule) : rowsU rs rs.length 0 = fun (a : Nat) => usesGo (a : Int) 0 rs := by
  funext a
  unfold rowsU
  simp
theorem info_row : (Try.prog.info? 62).map (fun i => (i.zero, i.size, i.bytes)) = some (some (.slice none 0 0), 1, 24) := by kernel_rfl
/-- make([][][2]int, n). -/
theorem make_rows (n : Nat) (hn : n ≤ 4398046511104) (W : World) :
    (Instr.makeSlice 60 (.int .i64 (n : Int)) (.int .i64 (n : Int))).run Try.prog W = .ok (.slice (some ⟨W.heap.size, 0, none⟩) n n) (W.alloc (.cells (valCells n (fun _ => .slice none 0 0)) 62)) := by
  have h := run_make_row' (P := Try.prog) 60 62 (.slice none 0 0) 24 Try.underlying60 info_row rfl .i64 .i64 n (by omega) (by omega) W
  have e : madeCells #[Value.slice none 0 0] n = valCells n (fun _ => .slice none 0 0) := by
    unfold madeCells valCells
    apply Array.ext
    · simp
    · intro i h1 h2
      simp [Nat.mod_one]
  rw [h, e]
theorem UsesAt.new {w : World} {ub n base : Nat} (h : Blk w ub 62 (valCells n (fun _ => .slice none 0 0))) : UsesAt w base ub n (fun _ => []) (fun _ => .slice none 0 0) (fun _ => 0) :=
  ⟨h, fun _ _ => OwnP.nil w base, fun _ _ _ _ _ _ hq => by simp [Value.ownBlock] at hq⟩
end Go.Proofs.Ytcbkkjcleiibfaa

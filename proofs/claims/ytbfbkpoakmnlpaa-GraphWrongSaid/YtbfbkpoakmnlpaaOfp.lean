/- The graph of a program, plain: its rows are ordered, b lies in row a exactly if a rule has a in its head and b in its body. -/
import Derived.Test.YtbfbkpoakmnlpaaG1
import Derived.Test.YtbfbkpoakmnlpaaG4
import Derived.Test.YtbfbkpoakmnlpaaKhs
import Derived.Lib.SlicesCompact
namespace Go.Proofs.Ytbfbkpoakmnlpaa

def psL (b : List Int) : List Int := b.filter fun x => decide (0 < x)
/-- The row of an atom before it is sorted. -/
def rawL (rs : List GRule) (a : Nat) : List Int := rs.flatMap fun r => r.head.flatMap fun h => if h = (a : Int) then psL r.body else []
def ofL (p : GProg) : List (List Int) := (List.range (p.n.toNat + 1)).map fun a => Lib.compact (sortZ (rawL p.rules a))
theorem cup_spec (zs : List Int) (hs : zs.Pairwise (· ≤ ·)) : ∀ m : Nat, m ≤ zs.length → (∀ x, x ∈ Lib.compactUpTo zs.toArray m ↔ x ∈ zs.take m) ∧ (Lib.compactUpTo zs.toArray m).Pairwise (· < ·)
  | 0, _ => ⟨fun x => by simp [Lib.compactUpTo], by simp [Lib.compactUpTo]⟩
  | m + 1, hm => by
    obtain ⟨i1, i2⟩ := cup_spec zs hs m (by omega)
    have e1 : (zs.toArray)[m]! = zs[m] := by simp [getElem!_pos, show m < zs.length by omega]
    have hle : ∀ x ∈ zs.take m, x ≤ zs[m] := fun x hx => by
      obtain ⟨j, hj, rfl⟩ := List.mem_iff_getElem.1 hx
      have hjm : j < m := by rw [List.length_take] at hj; omega
      rw [List.getElem_take]
      exact List.pairwise_iff_getElem.1 hs j m (by omega) (by omega) hjm
    rw [Lib.compactUpTo_succ, List.take_succ_eq_append_getElem (by omega), e1]
    by_cases hk : Lib.keeps zs.toArray m = true
    · rw [if_pos hk]
      refine ⟨fun x => by rw [List.mem_append, List.mem_append, i1], ?_⟩
      rw [List.pairwise_append]
      refine ⟨i2, by simp, fun x hx y hy => ?_⟩
      have hy : y = zs[m] := by simpa using hy
      subst hy
      have hx := (i1 x).1 hx
      have h1 := hle x hx
      have hne : x ≠ zs[m] := fun e => by
        unfold Lib.keeps at hk
        simp only [decide_eq_true_eq] at hk
        rcases hk with hk | hk
        · subst hk; simp at hx
        · apply hk
          rw [e1]
          obtain ⟨j, hj, rfl⟩ := List.mem_iff_getElem.1 hx
          have hjm : j < m := by rw [List.length_take] at hj; omega
          have hm1 : m - 1 < zs.length := by omega
          have e2 : (zs.toArray)[m - 1]! = zs[m - 1] := by simp [getElem!_pos, hm1]
          rw [e2]
          rw [List.getElem_take] at e
          have a1 : zs[j] ≤ zs[m - 1] := by
            by_cases q : j = m - 1
            · subst q; exact Int.le_refl _
            · exact List.pairwise_iff_getElem.1 hs j (m - 1) (by omega) hm1 (by omega)
          have a2 : zs[m - 1] ≤ zs[m] := List.pairwise_iff_getElem.1 hs (m - 1) m hm1 (by omega) (by omega)
          omega
      omega
    · rw [if_neg hk, List.append_nil]
      refine ⟨fun x => ?_, i2⟩
      rw [i1, List.mem_append]
      refine ⟨.inl, fun h => h.elim id fun h => ?_⟩
      have hx : x = zs[m] := by simpa using h
      subst hx
      have hk' : ¬ (m = 0 ∨ (zs.toArray)[m]! ≠ (zs.toArray)[m - 1]!) := fun q => hk (by unfold Lib.keeps; exact decide_eq_true q)
      have hm0 : m ≠ 0 := fun q => hk' (.inl q)
      have he : (zs.toArray)[m]! = (zs.toArray)[m - 1]! := Classical.byContradiction fun q => hk' (.inr q)
      have e2 : (zs.toArray)[m - 1]! = zs[m - 1] := by simp [getElem!_pos, show m - 1 < zs.length by omega]
      rw [e1, e2] at he
      rw [he]
      exact List.mem_iff_getElem.2 ⟨m - 1, by rw [List.length_take]; omega, by rw [List.getElem_take]⟩
theorem sortZ_le (l : List Int) : (sortZ l).Pairwise (· ≤ ·) := by
  have h1 : (sortZ l).Pairwise fun x y => decide (x ≤ y) = true := List.pairwise_mergeSort (fun a b c h1 h2 => by simp at h1 h2 ⊢; omega) (fun a b => by simp; omega) l
  exact h1.imp fun h => by simpa using h
theorem comp_spec (l : List Int) : (∀ x, x ∈ Lib.compact (sortZ l) ↔ x ∈ l) ∧ (Lib.compact (sortZ l)).Pairwise (· < ·) := by
  have h := cup_spec (sortZ l) (sortZ_le l) (sortZ l).length (Nat.le_refl _)
  rw [List.take_length] at h
  exact ⟨fun x => (h.1 x).trans (sortZ_mem l x), h.2⟩
theorem raw_mem (rs : List GRule) (a : Nat) (b : Int) : b ∈ rawL rs a ↔ ∃ r ∈ rs, (a : Int) ∈ r.head ∧ b ∈ r.body ∧ 0 < b := by
  unfold rawL
  rw [List.mem_flatMap]
  constructor
  · rintro ⟨r, hr, hb⟩
    obtain ⟨h, hh, hb⟩ := List.mem_flatMap.1 hb
    by_cases e : h = (a : Int)
    · rw [if_pos e] at hb
      obtain ⟨h1, h2⟩ := List.mem_filter.1 hb
      exact ⟨r, hr, by rw [← e]; exact hh, h1, by simpa using h2⟩
    · rw [if_neg e] at hb; cases hb
  · rintro ⟨r, hr, hh, hb, h0⟩
    exact ⟨r, hr, List.mem_flatMap.2 ⟨(a : Int), hh, by rw [if_pos rfl]; exact List.mem_filter.2 ⟨hb, by simpa using h0⟩⟩⟩
/-- There is an edge from a to b. -/
def EdgeP (p : GProg) (a b : Int) : Prop := ∃ r ∈ p.rules, a ∈ r.head ∧ b ∈ r.body ∧ 0 < b
theorem of_row {p : GProg} (h0 : 0 ≤ p.n) {a : Int} (a0 : 0 ≤ a) (a1 : a ≤ p.n) : rowZ (ofL p) a = Lib.compact (sortZ (rawL p.rules a.toNat)) := by
  unfold rowZ ofL
  rw [List.getD_eq_getElem?_getD, List.getElem?_map, List.getElem?_range (by omega)]; rfl
theorem of_far {p : GProg} {a : Int} (a1 : p.n < a) (h0 : 0 ≤ p.n) : rowZ (ofL p) a = [] := by
  unfold rowZ ofL
  rw [List.getD_eq_getElem?_getD, List.getElem?_eq_none (by simp; omega)]; rfl
theorem of_len (p : GProg) : (ofL p).length = p.n.toNat + 1 := by unfold ofL; simp
theorem of_edge {p : GProg} (h0 : 0 ≤ p.n) {a b : Int} (a0 : 0 ≤ a) (a1 : a ≤ p.n) : b ∈ rowZ (ofL p) a ↔ EdgeP p a b := by
  rw [of_row h0 a0 a1, (comp_spec _).1, raw_mem, show ((a.toNat : Nat) : Int) = a by omega]; rfl
theorem of_ok {p : GProg} (h : ProgIs p) (h0 : 0 ≤ p.n) (h4 : p.n ≤ 4000) : GOk (ofL p) := by
  have ent : ∀ a, ∀ b ∈ rowZ (ofL p) a, 1 ≤ b ∧ b ≤ p.n := fun a b hb => by
    by_cases a1 : a ≤ p.n
    · have hb : b ∈ rowZ (ofL p) ((a.toNat : Nat) : Int) := by
        unfold rowZ at hb ⊢
        rw [Int.toNat_natCast]; exact hb
      obtain ⟨r, hr, -, hbb, hb0⟩ := (of_edge h0 (by omega) (by omega)).1 hb
      have := ordGo_mem _ _ _ (show ordGo p.n none r.body = true from (h.rules r hr).body) b hbb
      unfold litB at this
      simp only [Bool.and_eq_true, bne_iff_ne, decide_eq_true_eq] at this
      omega
    · rw [of_far (by omega) h0] at hb; cases hb
  refine ⟨by rw [of_len]; omega, fun a b hb => ?_, fun a => ?_⟩
  · have := ent a b hb
    rw [of_len]; omega
  · have hn : (rowZ (ofL p) a).Nodup := by
      by_cases a1 : a ≤ p.n
      · have : rowZ (ofL p) a = rowZ (ofL p) ((a.toNat : Nat) : Int) := by unfold rowZ; rw [Int.toNat_natCast]
        rw [this, of_row h0 (by omega) (by omega)]
        exact List.nodup_iff_pairwise_ne.2 ((comp_spec _).2.imp fun h => by omega)
      · rw [of_far (by omega) h0]; simp
    have := nodup_le 4001 _ hn fun k hk => by have := ent a k hk; omega
    exact this
end Go.Proofs.Ytbfbkpoakmnlpaa

/- ostlerlaw21.reach. -/
import Derived.Test.YtbfbkpoakmnlpaaWsh
import Derived.Test.YtbfbkpoakmnlpaaGV
namespace Go.Proofs.Ytbfbkpoakmnlpaa
open Go.RowKit

def eStep (S : List Nat) (e : Int × Int) : List Nat := S.set e.1.toNat (nthN S e.1.toNat ||| 2 ^ e.2.toNat)
def eBits (n : Nat) (es : List (Int × Int)) : List Nat := es.foldl eStep (List.replicate n 0)
theorem eFold_len : ∀ (es : List (Int × Int)) (S : List Nat), (es.foldl eStep S).length = S.length
  | [], _ => rfl
  | e :: es, S => by rw [List.foldl_cons, eFold_len es]; simp [eStep]
theorem eFold_bit (x y : Nat) : ∀ (es : List (Int × Int)) (S : List Nat), (∀ e ∈ es, 0 ≤ e.1 ∧ e.1 < (S.length : Int) ∧ 0 ≤ e.2) → (Bit (es.foldl eStep S) x y ↔ Bit S x y ∨ ((x : Int), (y : Int)) ∈ es)
  | [], S, _ => by simp
  | e :: es, S, h => by
    have h0 := h e (List.mem_cons_self ..)
    rw [List.foldl_cons, eFold_bit x y es _ (fun k hk => by simpa [eStep] using h k (List.mem_cons_of_mem _ hk))]
    have : Bit (eStep S e) x y ↔ Bit S x y ∨ ((x : Int), (y : Int)) = e := by
      unfold Bit eStep
      rw [nthN_set (by omega)]
      obtain ⟨a, b⟩ := e
      simp only at h0
      split
      · rename_i q
        subst q
        rw [Nat.testBit_or, Bool.or_eq_true, Nat.testBit_two_pow]
        simp only [decide_eq_true_eq, Prod.mk.injEq]
        constructor
        · rintro (q | q)
          · exact .inl q
          · exact .inr ⟨by omega, by omega⟩
        · rintro (q | q)
          · exact .inl q
          · exact .inr (by omega)
      · rename_i q
        simp only [Prod.mk.injEq]
        constructor
        · exact .inl
        · rintro (k | k)
          · exact k
          · exact absurd (by omega) q
    rw [this, List.mem_cons, or_assoc]
theorem eBits_bit {n : Nat} {es : List (Int × Int)} (h : ∀ e ∈ es, 0 ≤ e.1 ∧ e.1 < (n : Int) ∧ 0 ≤ e.2) (x y : Nat) : Bit (eBits n es) x y ↔ ((x : Int), (y : Int)) ∈ es := by
  unfold eBits
  rw [eFold_bit x y es _ (by simpa using h)]
  have : ¬ Bit (List.replicate n 0) x y := by
    unfold Bit nthN
    rw [List.getD_eq_getElem?_getD, List.getElem?_replicate]
    split <;> simp
  simp [this]
theorem edgeL_mem {p : GProg} (x y : Int) : (x, y) ∈ edgeL p ↔ y ∈ rowZ (ofL p) x ∧ 0 ≤ x ∧ x ≤ (p.n.toNat : Int) := by
  unfold edgeL rowPr
  rw [List.mem_flatMap]
  constructor
  · rintro ⟨k, hk, h⟩
    obtain ⟨b, hb, e⟩ := List.mem_map.1 h
    have := List.mem_range.1 hk
    injection e with e1 e2
    subst e1 e2
    exact ⟨hb, by omega, by omega⟩
  · rintro ⟨h, h0, h1⟩
    refine ⟨x.toNat, List.mem_range.2 (by omega), List.mem_map.2 ⟨y, ?_, ?_⟩⟩
    · rw [Int.toNat_of_nonneg h0]; exact h
    · rw [Int.toNat_of_nonneg h0]
/-- What reach returns for a valid program. -/
def rchL (p : GProg) : List Nat := wRnd (p.n.toNat + 1) (eBits (p.n.toNat + 1) (edgeL p)) (p.n.toNat + 1)
theorem eBits_len (n : Nat) (es : List (Int × Int)) : (eBits n es).length = n := by unfold eBits; rw [eFold_len, List.length_replicate]
theorem edge_rng {p : GProg} (hg : GOk (ofL p)) (hl : (ofL p).length = p.n.toNat + 1) : ∀ e ∈ edgeL p, (0 ≤ e.1 ∧ e.1 < ((p.n.toNat + 1 : Nat) : Int)) ∧ 1 ≤ e.2 ∧ e.2 < ((p.n.toNat + 1 : Nat) : Int) := fun ⟨x, y⟩ he => by
  obtain ⟨h1, h2, h3⟩ := (edgeL_mem x y).1 he
  have := hg.ent _ _ h1
  rw [hl] at this
  exact ⟨⟨h2, by omega⟩, this.1, this.2⟩
theorem rchL_ok {p : GProg} (hg : GOk (ofL p)) (hl : (ofL p).length = p.n.toNat + 1) (x y : Nat) : Bit (rchL p) x y ↔ Plus (ofL p) (x : Int) (y : Int) := by
  unfold rchL
  rw [← hl]
  refine reach_ok hg (eBits_len _ _) (fun u v => ?_) x y
  rw [eBits_bit (fun e he => by have := edge_rng hg hl e he; rw [hl]; exact ⟨this.1.1, this.1.2, by omega⟩), edgeL_mem]
  constructor
  · exact fun h => h.1
  · intro h
    refine ⟨h, by omega, ?_⟩
    rcases Nat.lt_or_ge u (ofL p).length with q | q
    · omega
    · unfold EdN rowZ at h
      rw [Int.toNat_natCast, List.getD_eq_getElem?_getD, List.getElem?_eq_none q] at h
      simp at h
/-- All rows are below 2 ^ n. -/
def Low (n : Nat) (S : List Nat) : Prop := ∀ a, nthN S a < 2 ^ n
theorem Low.set {n : Nat} {S : List Nat} (h : Low n S) {a v : Nat} (hv : v < 2 ^ n) : Low n (S.set a v) := fun x => by
  rcases Nat.lt_or_ge a S.length with q | q
  · rw [nthN_set q]
    split
    · exact hv
    · exact h x
  · rw [List.set_eq_of_length_le q]; exact h x
theorem Low.wB {n : Nat} {S : List Nat} (h : Low n S) (a b : Nat) : Low n (wB S a b) := by
  unfold Go.Proofs.Ytbfbkpoakmnlpaa.wB
  split
  · exact h.set (Nat.or_lt_two_pow (h a) (h b))
  · exact h
theorem Low.eStep {n : Nat} {S : List Nat} (h : Low n S) {e : Int × Int} (he : e.2 < (n : Int)) (h1 : 0 ≤ e.2) : Low n (eStep S e) :=
  h.set (Nat.or_lt_two_pow (h _) (Nat.pow_lt_pow_right (by omega) (by omega)))
theorem Low.zero (n m : Nat) : Low n (List.replicate m 0) := fun x => by
  unfold nthN
  rw [List.getD_eq_getElem?_getD, List.getElem?_replicate]
  have : 0 < 2 ^ n := Nat.pow_pos (by omega)
  split <;> simpa using this
/-- Cells of a row of uint64. -/
def u64C (S : List Nat) : Array Value := (S.map fun (x : Nat) => Value.int .u64 (x : Int)).toArray
theorem u64C_set (S : List Nat) (i v : Nat) : (u64C S).setIfInBounds i (.int .u64 (v : Int)) = u64C (S.set i v) := by
  unfold u64C
  apply Array.ext'
  simp [List.map_set]
theorem u64C_at {S : List Nat} {a : Nat} (ha : a < S.length) : (u64C S)[a]? = some (.int .u64 (nthN S a : Int)) := by
  unfold u64C nthN
  simp [List.getD_eq_getElem?_getD, List.getElem?_eq_getElem ha]
end Go.Proofs.Ytbfbkpoakmnlpaa

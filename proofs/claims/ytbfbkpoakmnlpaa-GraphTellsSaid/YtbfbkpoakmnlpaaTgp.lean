/- GraphTight, plain: cycles and walks. -/
import Derived.Test.YtbfbkpoakmnlpaaHdp
import Derived.Test.YtbfbkpoakmnlpaaGW
namespace Go.Proofs.Ytbfbkpoakmnlpaa
open Go.RowKit

section
variable {g : List (List Int)}
theorem pth_wlk {fr : Int} : ∀ (j : Nat) {a : Int}, Pth g fr j a → Wlk g j a fr
  | 0, _, h => h.elim
  | 1, _, h => ⟨_, h, rfl⟩
  | j + 2, _, ⟨b, hb, _, h⟩ => ⟨b, hb, pth_wlk (j + 1) h⟩
theorem wlk_rch : ∀ (k : Nat) {a b : Int}, Wlk g k a b → Rch g a b
  | 0, a, b, h => by
    have : a = b := h
    subst this; exact .refl _
  | k + 1, a, b, ⟨c, hc, h⟩ => .step hc (wlk_rch k h)
theorem wlk_plus {k : Nat} {a b : Int} (h : Wlk g (k + 1) a b) : Plus g a b := by
  obtain ⟨c, hc, h⟩ := h; exact ⟨c, hc, wlk_rch k h⟩
theorem rch_wlk {a b : Int} (h : Rch g a b) : ∃ k, Wlk g k a b := by
  induction h with
  | refl a => exact ⟨0, rfl⟩
  | step h _ ih => obtain ⟨k, hk⟩ := ih; exact ⟨k + 1, _, h, hk⟩
theorem plus_wlk {a b : Int} (h : Plus g a b) : ∃ k, Wlk g (k + 1) a b := by
  obtain ⟨c, hc, h⟩ := h
  obtain ⟨k, hk⟩ := rch_wlk h
  exact ⟨k, c, hc, hk⟩
theorem wlk_snoc : ∀ (k : Nat) {a b : Int}, Wlk g (k + 1) a b ↔ ∃ c, Wlk g k a c ∧ b ∈ rowZ g c
  | 0, a, b => by
    constructor
    · rintro ⟨c, hc, h⟩
      have : c = b := h
      subst this; exact ⟨a, rfl, hc⟩
    · rintro ⟨c, h, hc⟩
      have : a = c := h
      subst this; exact ⟨b, hc, rfl⟩
  | k + 1, a, b => by
    constructor
    · rintro ⟨c, hc, h⟩
      obtain ⟨d, h1, h2⟩ := (wlk_snoc k).1 h
      exact ⟨d, ⟨c, hc, h1⟩, h2⟩
    · rintro ⟨d, ⟨c, hc, h1⟩, h2⟩
      exact ⟨c, hc, (wlk_snoc k).2 ⟨d, h1, h2⟩⟩
theorem chain_next {fr : Int} : ∀ (t : List Int) (x : Int) (i : Nat), ChainP g fr x t → i < (x :: t).length → ∃ a b, (x :: t)[i]? = some a ∧ (if i + 1 < (x :: t).length then (x :: t)[i + 1]? else some fr) = some b ∧ b ∈ rowZ g a
  | [], x, i, h, hi => by
    have : i = 0 := by simpa using hi
    subst this
    exact ⟨x, fr, rfl, rfl, h⟩
  | y :: t, x, 0, h, hi => ⟨x, y, rfl, by simp, h.1⟩
  | y :: t, x, i + 1, h, hi => by
    obtain ⟨a, b, h1, h2, h3⟩ := chain_next t y i h.2 (by simpa using hi)
    refine ⟨a, b, by simpa using h1, ?_, h3⟩
    rw [← h2]
    simp
end
/-- What comes next: the targets of the edges that begin in the set v. -/
def nxStep (v acc : Nat) (e : Int × Int) : Nat := if v.testBit e.1.toNat then acc ||| 2 ^ e.2.toNat else acc
def nxB (es : List (Int × Int)) (v : Nat) : Nat := es.foldl (nxStep v) 0
theorem nx_bit (v y : Nat) : ∀ (es : List (Int × Int)) (acc : Nat), (es.foldl (nxStep v) acc).testBit y = true ↔ acc.testBit y = true ∨ ∃ e ∈ es, v.testBit e.1.toNat = true ∧ e.2.toNat = y
  | [], acc => by simp
  | e :: es, acc => by
    rw [List.foldl_cons, nx_bit v y es]
    unfold nxStep
    split
    · rename_i h
      rw [Nat.testBit_or, Bool.or_eq_true, Nat.testBit_two_pow, decide_eq_true_eq]
      constructor
      · rintro ((q | q) | ⟨x, hx, q⟩)
        · exact .inl q
        · exact .inr ⟨e, List.mem_cons_self .., h, q⟩
        · exact .inr ⟨x, List.mem_cons_of_mem _ hx, q⟩
      · rintro (q | ⟨x, hx, q⟩)
        · exact .inl (.inl q)
        · rcases List.mem_cons.1 hx with rfl | hx
          · exact .inl (.inr q.2)
          · exact .inr ⟨x, hx, q⟩
    · rename_i h
      constructor
      · rintro (q | ⟨x, hx, q⟩)
        · exact .inl q
        · exact .inr ⟨x, List.mem_cons_of_mem _ hx, q⟩
      · rintro (q | ⟨x, hx, q⟩)
        · exact .inl q
        · rcases List.mem_cons.1 hx with rfl | hx
          · exact absurd q.1 h
          · exact .inr ⟨x, hx, q⟩
theorem nx_low (v : Nat) : ∀ (es : List (Int × Int)) (acc : Nat), (∀ e ∈ es, 0 ≤ e.2 ∧ e.2 < 13) → acc < 8192 → es.foldl (nxStep v) acc < 8192
  | [], acc, _, h => h
  | e :: es, acc, he, h => by
    rw [List.foldl_cons]
    have h0 := he e (List.mem_cons_self ..)
    refine nx_low v es _ (fun k hk => he k (List.mem_cons_of_mem _ hk)) ?_
    unfold nxStep
    split
    · exact Nat.or_lt_two_pow (n := 13) h (Nat.pow_lt_pow_right (by omega) (by omega))
    · exact h
def nowK (es : List (Int × Int)) (a : Nat) : Nat → Nat
  | 0 => 2 ^ a
  | k + 1 => nxB es (nowK es a k)
theorem now_wlk {p : GProg} (hi : ProgIs p) {a : Nat} (_ : (a : Int) ≤ p.n) : ∀ (k b : Nat), (nowK (edgeL p) a k).testBit b = true ↔ Wlk (ofL p) k (a : Int) (b : Int)
  | 0, b => by
    show (2 ^ a).testBit b = true ↔ (a : Int) = (b : Int)
    rw [Nat.testBit_two_pow, decide_eq_true_eq]; omega
  | k + 1, b => by
    have hg := of_ok hi (namedB_n hi.named).1 (namedB_n hi.named).2
    have hl := of_len p
    show (nxB (edgeL p) (nowK (edgeL p) a k)).testBit b = true ↔ _
    unfold nxB
    rw [nx_bit, wlk_snoc]
    simp only [Nat.zero_testBit, Bool.false_eq_true, false_or]
    constructor
    · rintro ⟨⟨x, y⟩, he, h1, h2⟩
      obtain ⟨e1, e2, e3⟩ := (edgeL_mem x y).1 he
      have := hg.ent _ _ e1
      refine ⟨x, ?_, by rw [show (b : Int) = y by have : y.toNat = b := h2; omega]; exact e1⟩
      have h := (now_wlk hi ‹_› k x.toNat).1 h1
      rwa [Int.toNat_of_nonneg e2] at h
    · rintro ⟨c, h1, h2⟩
      have hr := hg.ent _ _ h2
      have hc : 0 ≤ c ∧ c ≤ p.n := by
        cases k with
        | zero =>
          have : (a : Int) = c := h1
          omega
        | succ k =>
          obtain ⟨d, _, hd⟩ := (wlk_snoc k).1 h1
          have := hg.ent _ _ hd
          have := (namedB_n hi.named).1
          omega
      refine ⟨(c, (b : Int)), (edgeL_mem _ _).2 ⟨h2, hc.1, by have := (namedB_n hi.named).1; omega⟩, ?_, by simp⟩
      have h := (now_wlk hi ‹_› k c.toNat).2 (by rw [Int.toNat_of_nonneg hc.1]; exact h1)
      exact h
structure TightL (p : GProg) : Prop where
  emp : tightB p = decide ((cycL p).length = 0)
  rnd : ((List.range (p.n.toNat)).any fun a => bitN (rchL p) ((a : Int) + 1) ((a : Int) + 1)) = !tightB p
  rng : ∀ y ∈ cycL p, 1 ≤ y ∧ y ≤ p.n
  head : ∀ (i : Nat) a b, (cycL p)[i]? = some a → (cycL p)[0]? = some b → b ≤ a
  edge : ∀ (i : Nat), i < (cycL p).length → ∀ a b, (cycL p)[i]? = some a → (cycL p)[(i + 1) % (cycL p).length]? = some b → (a, b) ∈ edgeL p
  nod : ∀ (i j : Nat) a b, j < i → (cycL p)[i]? = some a → (cycL p)[j]? = some b → a ≠ b
  walk : ∀ (a : Nat), 1 ≤ a → (a : Int) ≤ p.n → ∀ k : Nat, 1 ≤ k → k < (cycL p).length → (nowK (edgeL p) a k).testBit a = false
theorem tight_law {p : GProg} (hi : ProgIs p) : TightL p := by
  have h0 : 0 ≤ p.n := (namedB_n hi.named).1
  have hl := of_len p
  have hg := of_ok hi h0 (namedB_n hi.named).2
  have hN : p.n = ((p.n.toNat : Nat) : Int) := by omega
  have hb : BestOk (ofL p) p.n (cycL p) := by
    have := cyc_ok hg (N := p.n.toNat) hl p.n.toNat (Nat.le_refl _)
    rwa [← hN] at this
  have hti := tight_iff hi
  have hnoW : ∀ a : Int, 1 ≤ a → a ≤ p.n → Plus (ofL p) a a → ∃ (c : Int) (j : Nat), 1 ≤ c ∧ c ≤ p.n ∧ Pth (ofL p) c j c := fun a a1 a2 h => by
    obtain ⟨k, hk⟩ := plus_wlk h
    obtain ⟨c, j, c1, c2, -, hp⟩ := closed_pth hg a.toNat a a1 (Nat.le_refl _) k hk
    exact ⟨c, j, c1, by omega, hp⟩
  have hpp : ∀ (c : Int) (j : Nat), Pth (ofL p) c j c → Plus (ofL p) c c := fun c j h => by
    cases j with
    | zero => exact h.elim
    | succ j => exact wlk_plus (pth_wlk _ h)
  have hemp : tightB p = decide ((cycL p).length = 0) := by
    rw [Bool.eq_iff_iff, hti, decide_eq_true_eq]
    rcases hb with ⟨h1, h2⟩ | ⟨h1, ⟨fr, h2⟩, h3⟩
    · rw [h1]
      refine ⟨fun _ => rfl, fun _ a a1 a2 h => ?_⟩
      obtain ⟨c, j, c1, c2, hp⟩ := hnoW a a1 a2 h
      exact h2 c c1 c2 j hp
    · constructor
      · intro h
        obtain ⟨t, e, -⟩ := h2.ex
        have := h2.rng fr (by rw [e]; exact List.mem_cons_self ..)
        exact absurd (hpp _ _ h2.way) (h fr this.1 (by omega))
      · intro h
        exact absurd (List.eq_nil_of_length_eq_zero h) h1
  have hex : ∀ {i : Nat} {a : Int}, (cycL p)[i]? = some a → ∃ fr, CycOk (ofL p) fr (cycL p) := fun {i a} h => by
    rcases hb with ⟨h1, _⟩ | ⟨_, h2, _⟩
    · rw [h1] at h; cases h
    · exact h2
  refine ⟨hemp, ?_, fun y hy => ?_, fun i a b ha hb' => ?_, fun i hil a b ha hb' => ?_, fun i j a b hji ha hb' => ?_, fun a a1 a2 k k1 k2 => ?_⟩
  · rw [Bool.eq_iff_iff, List.any_eq_true, Bool.not_eq_true']
    constructor
    · rintro ⟨a, ha, h⟩
      have := List.mem_range.1 ha
      rw [bit_ok hi (by omega) (by omega)] at h
      cases ht : tightB p with
      | false => rfl
      | true => exact absurd h (hti.1 ht _ (by omega) (by omega))
    · intro h
      refine Classical.byContradiction fun q => ?_
      have : tightB p = true := hti.2 fun a a1 a2 hp => q ⟨a.toNat - 1, List.mem_range.2 (by omega), by
        rw [show (((a.toNat - 1 : Nat) : Int) + 1) = a by omega, bit_ok hi (by omega) (by omega)]; exact hp⟩
      rw [h] at this; cases this
  · obtain ⟨i, hi'⟩ := List.getElem?_of_mem hy
    obtain ⟨fr, hc⟩ := hex hi'
    have := hc.rng y hy
    omega
  · obtain ⟨fr, hc⟩ := hex ha
    obtain ⟨t, e, -, ht⟩ := hc.ex
    rw [e] at ha hb'
    have hb'' : fr = b := by simpa using hb'
    subst hb''
    rcases List.mem_cons.1 (List.mem_of_getElem? ha) with q | q
    · omega
    · have := ht a q; omega
  · obtain ⟨fr, hc⟩ := hex ha
    obtain ⟨t, e, hch, -⟩ := hc.ex
    obtain ⟨x, y, h1, h2, h3⟩ := chain_next t fr i hch (by rw [← e]; exact hil)
    rw [← e] at h1 h2
    rw [ha] at h1; injection h1 with h1; subst h1
    have hr := hc.rng a (List.mem_of_getElem? ha)
    have hyb : y = b := by
      split at h2
      · rename_i q
        rw [Nat.mod_eq_of_lt q, h2] at hb'
        injection hb'
      · rename_i q
        rw [show i + 1 = (cycL p).length by omega, Nat.mod_self, e] at hb'
        simp at hb' h2
        omega
    subst hyb
    exact (edgeL_mem _ _).2 ⟨h3, by omega, by omega⟩
  · obtain ⟨fr, hc⟩ := hex ha
    obtain ⟨q1, e1⟩ := List.getElem?_eq_some_iff.1 ha
    obtain ⟨q2, e2⟩ := List.getElem?_eq_some_iff.1 hb'
    have hn := hc.nod
    rw [List.Nodup, List.pairwise_iff_getElem] at hn
    have := hn j i q2 q1 hji
    rw [e1, e2] at this
    exact Ne.symm this
  · cases hh : (nowK (edgeL p) a k).testBit a with
    | false => rfl
    | true =>
      exfalso
      have hw := (now_wlk hi a2 k a).1 hh
      rcases hb with ⟨h1, h2⟩ | ⟨h1, h2, h3⟩
      · rw [h1] at k2; cases k2
      · obtain ⟨k', rfl⟩ : ∃ k', k = k' + 1 := ⟨k - 1, by omega⟩
        obtain ⟨c, j, c1, c2, hj, hp⟩ := closed_pth hg a (a : Int) (by omega) (by omega) k' hw
        have := h3 c c1 (by omega) j hp
        omega
end Go.Proofs.Ytbfbkpoakmnlpaa

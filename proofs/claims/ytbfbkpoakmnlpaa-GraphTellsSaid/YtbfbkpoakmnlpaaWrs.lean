/- Warshall's closure as ostlerref21.Paths computes it, plain; edges by pairs. -/
import Derived.Test.YtbfbkpoakmnlpaaHdp
namespace Go.Proofs.Ytbfbkpoakmnlpaa
open Go.RowKit

def tB (E : Nat → Nat → Bool) : Nat → Nat → Nat → Bool
  | 0, a, b => E a b
  | k + 1, a, b => tB E k a b || (tB E k a k && tB E k k b)
section
variable {E : Nat → Nat → Bool}
theorem tB_col (k a : Nat) : tB E (k + 1) a k = tB E k a k := by
  show (tB E k a k || (tB E k a k && tB E k k k)) = tB E k a k
  cases tB E k a k <;> simp
theorem tB_row (k b : Nat) : tB E (k + 1) k b = tB E k k b := by
  show (tB E k k b || (tB E k k k && tB E k k b)) = tB E k k b
  cases tB E k k b <;> simp
theorem tB_mono {k a b : Nat} (h : tB E k a b = true) : tB E (k + 1) a b = true := by
  show (tB E k a b || _) = true
  rw [h]; rfl
theorem tB_base {a b : Nat} (h : E a b = true) : ∀ k, tB E k a b = true
  | 0 => h
  | k + 1 => tB_mono (tB_base h k)
theorem tB_via {k a b : Nat} (h1 : tB E k a k = true) (h2 : tB E k k b = true) : tB E (k + 1) a b = true := by
  show (tB E k a b || (tB E k a k && tB E k k b)) = true
  rw [h1, h2]; simp
theorem tB_or {k a b : Nat} (h : tB E (k + 1) a b = true) : tB E k a b = true ∨ (tB E k a k = true ∧ tB E k k b = true) := by
  have h : (tB E k a b || (tB E k a k && tB E k k b)) = true := h
  simpa using h
theorem tB_trans : ∀ (k : Nat) {a b c : Nat}, c < k → tB E k a c = true → tB E k c b = true → tB E k a b = true
  | 0, _, _, _, h, _, _ => by omega
  | k + 1, a, b, c, h, h1, h2 => by
    by_cases e : c = k
    · subst e
      rw [tB_col] at h1
      rw [tB_row] at h2
      exact tB_via h1 h2
    · have hc : c < k := by omega
      rcases tB_or h1 with p1 | ⟨p1, p2⟩
      · rcases tB_or h2 with q1 | ⟨q1, q2⟩
        · exact tB_mono (tB_trans k hc p1 q1)
        · exact tB_via (tB_trans k hc p1 q1) q2
      · rcases tB_or h2 with q1 | ⟨q1, q2⟩
        · exact tB_via p1 (tB_trans k hc p2 q1)
        · exact tB_via p1 q2
theorem tB_sound {T : Nat → Nat → Prop} (ht : ∀ a b c, T a b → T b c → T a c) (he : ∀ a b, E a b = true → T a b) : ∀ (k a b : Nat), tB E k a b = true → T a b
  | 0, a, b, h => he a b h
  | k + 1, a, b, h => by
    rcases tB_or h with q | ⟨q1, q2⟩
    · exact tB_sound ht he k a b q
    · exact ht _ _ _ (tB_sound ht he k _ _ q1) (tB_sound ht he k _ _ q2)
end
/-! ### matrices -/
def mat (n : Nat) (F : Nat → Nat → Bool) : List Int := (List.range (n * n)).map fun i => if F (i / n) (i % n) then 1 else 0
theorem mat_len (n : Nat) (F : Nat → Nat → Bool) : (mat n F).length = n * n := by unfold mat; simp
theorem ix_lt {n a b : Nat} (ha : a < n) (hb : b < n) : a * n + b < n * n := by
  have : (a + 1) * n ≤ n * n := Nat.mul_le_mul_right n ha
  rw [Nat.add_mul] at this; omega
theorem ix_div {n a b : Nat} (hb : b < n) : (a * n + b) / n = a ∧ (a * n + b) % n = b := by
  have h0 : 0 < n := by omega
  constructor
  · rw [Nat.add_comm, Nat.add_mul_div_right _ _ h0, Nat.div_eq_of_lt hb]; omega
  · rw [Nat.add_comm, Nat.add_mul_mod_self_right, Nat.mod_eq_of_lt hb]
theorem mat_at {n a b : Nat} (ha : a < n) (hb : b < n) (F : Nat → Nat → Bool) : (mat n F)[a * n + b]? = some (if F a b then 1 else 0) := by
  unfold mat
  rw [List.getElem?_map, List.getElem?_range (ix_lt ha hb)]
  simp only [Option.map_some]
  rw [(ix_div hb).1, (ix_div hb).2]
theorem mat_congr {n : Nat} {F G : Nat → Nat → Bool} (h : ∀ x y, x < n → y < n → F x y = G x y) : mat n F = mat n G := by
  unfold mat
  apply List.map_congr_left
  intro i hi
  have hi := List.mem_range.1 hi
  have h0 : 0 < n := by
    rcases Nat.eq_zero_or_pos n with q | q
    · subst q; simp at hi
    · exact q
  rw [h _ _ (Nat.div_lt_of_lt_mul hi) (Nat.mod_lt _ h0)]
theorem mat_set {n a b : Nat} (hb : b < n) (F : Nat → Nat → Bool) {G : Nat → Nat → Bool} (hG : ∀ x y, x < n → y < n → G x y = if x = a ∧ y = b then true else F x y) : (mat n F).set (a * n + b) 1 = mat n G := by
  unfold mat
  apply List.ext_getElem
  · simp
  · intro i h1 h2
    have hi : i < n * n := by simpa using h2
    have h0 : 0 < n := by omega
    rw [List.getElem_set]
    simp only [List.getElem_map, List.getElem_range]
    rw [hG _ _ (Nat.div_lt_of_lt_mul hi) (Nat.mod_lt _ h0)]
    by_cases e : a * n + b = i
    · subst e
      rw [(ix_div hb).1, (ix_div hb).2]; simp
    · have hn : ¬ (i / n = a ∧ i % n = b) := by
        rintro ⟨q1, q2⟩
        have := Nat.div_add_mod i n
        rw [q1, q2, Nat.mul_comm] at this
        exact e this
      rw [if_neg e]
      simp only [hn, if_false]
/-- What the first loops have filled in. -/
def mF0 (E : Nat → Nat → Bool) (a b : Nat) (x y : Nat) : Bool := E x y && (decide (x < a) || (decide (x = a) && decide (y < b)))
/-- What round k has turned. -/
def mFk (E : Nat → Nat → Bool) (k a b : Nat) (x y : Nat) : Bool := if x < a ∨ (x = a ∧ y < b) then tB E (k + 1) x y else tB E k x y
theorem mFk_col (E : Nat → Nat → Bool) (k a b : Nat) : mFk E k a b a k = tB E k a k := by
  unfold mFk; split
  · exact tB_col k a
  · rfl
theorem mFk_row (E : Nat → Nat → Bool) (k a b y : Nat) : mFk E k a b k y = tB E k k y := by
  unfold mFk; split
  · exact tB_row k y
  · rfl
theorem mFk_here (E : Nat → Nat → Bool) (k a b : Nat) : mFk E k a b a b = tB E k a b := by
  unfold mFk; rw [if_neg (by omega)]
theorem mF0_next {n : Nat} (E : Nat → Nat → Bool) (a b : Nat) (hb : b < n) : (E a b = false → mat n (mF0 E a b) = mat n (mF0 E a (b + 1))) ∧ (E a b = true → (mat n (mF0 E a b)).set (a * n + b) 1 = mat n (mF0 E a (b + 1))) := by
  constructor
  · intro h
    refine mat_congr fun x y _ _ => ?_
    unfold mF0
    by_cases e : x = a ∧ y = b
    · obtain ⟨rfl, rfl⟩ := e; rw [h]; rfl
    · congr 1
      by_cases q1 : x < a
      · simp [q1]
      · by_cases q2 : x = a
        · subst q2
          have : (y < b) ↔ (y < b + 1) := by omega
          simp [this]
        · simp [q1, q2]
  · intro h
    refine mat_set hb _ fun x y _ _ => ?_
    unfold mF0
    by_cases e : x = a ∧ y = b
    · rw [if_pos e]; obtain ⟨rfl, rfl⟩ := e; simp [h]
    · rw [if_neg e]
      congr 1
      by_cases q1 : x < a
      · simp [q1]
      · by_cases q2 : x = a
        · subst q2
          have : (y < b + 1) ↔ (y < b) := by omega
          simp [this]
        · simp [q1, q2]
theorem mF0_row {n : Nat} (E : Nat → Nat → Bool) (a : Nat) : mat n (mF0 E a n) = mat n (mF0 E (a + 1) 0) := by
  refine mat_congr fun x y _ hy => ?_
  unfold mF0
  congr 1
  by_cases q1 : x < a
  · have : x < a + 1 := by omega
    simp [q1, this]
  · by_cases q2 : x = a
    · subst q2; simp [hy]
    · have : ¬ x < a + 1 := by omega
      simp [q1, q2, this]
theorem mF0_end {n : Nat} (E : Nat → Nat → Bool) : mat n (mF0 E n 0) = mat n (mFk E 0 0 0) := by
  refine mat_congr fun x y hx _ => ?_
  unfold mF0 mFk
  rw [if_neg (by omega)]
  simp [hx, tB]
theorem mFk_next {n : Nat} (E : Nat → Nat → Bool) (k a b : Nat) (hb : b < n) : ((tB E k a k && tB E k k b) = false → mat n (mFk E k a b) = mat n (mFk E k a (b + 1))) ∧ ((tB E k a k && tB E k k b) = true → (mat n (mFk E k a b)).set (a * n + b) 1 = mat n (mFk E k a (b + 1))) := by
  constructor
  · intro h
    refine mat_congr fun x y _ _ => ?_
    unfold mFk
    by_cases e : x = a ∧ y = b
    · obtain ⟨rfl, rfl⟩ := e
      rw [if_neg (by omega), if_pos (by omega)]
      show _ = (tB E k x y || (tB E k x k && tB E k k y))
      rw [h, Bool.or_false]
    · have : (x < a ∨ (x = a ∧ y < b)) ↔ (x < a ∨ (x = a ∧ y < b + 1)) := by omega
      simp only [this]
  · intro h
    refine mat_set hb _ fun x y _ _ => ?_
    unfold mFk
    by_cases e : x = a ∧ y = b
    · rw [if_pos e]
      obtain ⟨rfl, rfl⟩ := e
      rw [if_pos (by omega)]
      show (tB E k x y || (tB E k x k && tB E k k y)) = true
      rw [h, Bool.or_true]
    · rw [if_neg e]
      have : (x < a ∨ (x = a ∧ y < b + 1)) ↔ (x < a ∨ (x = a ∧ y < b)) := by omega
      simp only [this]
theorem mFk_rowE {n : Nat} (E : Nat → Nat → Bool) (k a : Nat) : mat n (mFk E k a n) = mat n (mFk E k (a + 1) 0) := by
  refine mat_congr fun x y _ hy => ?_
  unfold mFk
  have : (x < a ∨ (x = a ∧ y < n)) ↔ (x < a + 1 ∨ (x = a + 1 ∧ y < 0)) := by omega
  simp only [this]
theorem mFk_end {n : Nat} (E : Nat → Nat → Bool) (k : Nat) : mat n (mFk E k n 0) = mat n (mFk E (k + 1) 0 0) := by
  refine mat_congr fun x y hx _ => ?_
  unfold mFk
  rw [if_pos (by omega), if_neg (by omega)]
theorem mFk_done {n : Nat} (E : Nat → Nat → Bool) (k : Nat) : mat n (mFk E k 0 0) = mat n (tB E k) := by
  refine mat_congr fun x y _ _ => ?_
  unfold mFk
  rw [if_neg (by omega)]
/-! ### the edges of a program -/
def edB (p : GProg) (a b : Int) : Bool := p.rules.any fun r => decide (a ∈ r.head) && decide (b ∈ r.body)
def edN (p : GProg) (x y : Nat) : Bool := edB p ((x : Int) + 1) ((y : Int) + 1)
theorem edB_iff {p : GProg} {a b : Int} (hb : 0 < b) : edB p a b = true ↔ EdgeP p a b := by
  unfold edB EdgeP
  rw [List.any_eq_true]
  constructor
  · rintro ⟨r, hr, h⟩
    rw [Bool.and_eq_true, decide_eq_true_eq, decide_eq_true_eq] at h
    exact ⟨r, hr, h.1, h.2, hb⟩
  · rintro ⟨r, hr, h1, h2, -⟩
    exact ⟨r, hr, by simp [h1, h2]⟩
def ptB (p : GProg) (x y : Nat) : Bool := tB (edN p) p.n.toNat x y
theorem pt_plus {p : GProg} (hi : ProgIs p) {x y : Nat} (_ : x < p.n.toNat) (_ : y < p.n.toNat) : ptB p x y = true ↔ Plus (ofL p) ((x : Int) + 1) ((y : Int) + 1) := by
  have h0 : 0 ≤ p.n := (namedB_n hi.named).1
  have hl := of_len p
  have hg := of_ok hi h0 (namedB_n hi.named).2
  have hed : ∀ a b : Nat, edN p a b = true → ((b : Int) + 1) ∈ rowZ (ofL p) ((a : Int) + 1) := fun a b h => by
    have he := (edB_iff (by omega)).1 h
    obtain ⟨r, hr, ha, -⟩ := he
    have := inc_mem (hi.rules r hr).head _ ha
    exact (of_edge h0 (by omega) (by omega)).2 ((edB_iff (by omega)).1 h)
  constructor
  · intro h
    exact tB_sound (T := fun x y => Plus (ofL p) ((x : Int) + 1) ((y : Int) + 1)) (fun _ _ _ h k => h.trans k) (fun a b h => ⟨_, hed a b h, .refl _⟩) _ x y h
  · have hde : ∀ (a : Nat) (c : Int), c ∈ rowZ (ofL p) ((a : Int) + 1) → (a : Int) + 1 ≤ p.n → tB (edN p) p.n.toNat a (c - 1).toNat = true := fun a c hc ha => by
      have hr := hg.ent _ _ hc
      refine tB_base ?_ _
      unfold edN
      rw [show (((c - 1).toNat : Nat) : Int) + 1 = c by omega]
      exact (edB_iff (by omega)).2 ((of_edge h0 (by omega) ha).1 hc)
    have key : ∀ c z : Int, Rch (ofL p) c z → 1 ≤ c → c ≤ p.n → ∀ a : Nat, tB (edN p) p.n.toNat a (c - 1).toNat = true → tB (edN p) p.n.toNat a (z - 1).toNat = true := fun c z h => by
      induction h with
      | refl c => exact fun _ _ a h => h
      | @step c d z hd _ ih =>
        intro c1 c2 a h
        have hr := hg.ent _ _ hd
        have h2 := hde (c - 1).toNat d (by rw [show (((c - 1).toNat : Nat) : Int) + 1 = c by omega]; exact hd) (by omega)
        exact ih hr.1 (by omega) a (tB_trans _ (by omega) h h2)
    rintro ⟨c, hc, hr⟩
    have h1 := hg.ent _ _ hc
    have := key c _ hr h1.1 (by omega) x (hde x c hc (by omega))
    rw [show ((y : Int) + 1 - 1).toNat = y by omega] at this
    exact this
/-- Two atoms that reach each other, or one. -/
def tgB (p : GProg) (x y : Nat) : Bool := decide (x = y) || (ptB p x y && ptB p y x)
end Go.Proofs.Ytbfbkpoakmnlpaa

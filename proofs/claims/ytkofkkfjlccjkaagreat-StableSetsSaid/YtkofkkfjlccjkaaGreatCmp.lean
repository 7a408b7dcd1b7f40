/- Maps of ints to ints that a call makes, in which every key holds more than nothing; what a range over one has gathered. -/
import Derived.Test.YtkofkkfjlccjkaaGreatG3
import Derived.Maps.RangeWalk
import Derived.Maps.OwnSet
namespace Go.Proofs.YtkofkkfjlccjkaaGreat
open Go.RowKit Go.Maps

def kI (x : Int) : Lit := .int .i64 x
/-- Block B is a map that reads as D, of at most n entries; at x it holds f x. -/
def CMap (w : World) (B n : Nat) (f : Int → Int) (D : DataW Unit) : Prop :=
  w.ownsMap Tryz.prog 3 (plainElem Tryz.prog 3) B n D ∧ (∀ x : Int, D.atKey (kI x) (.lit (.int .i64 0)) = .lit (.int .i64 (f x))) ∧ ∀ x : Int, has D (kI x) = true → 0 < f x
theorem CMap.new (w : World) : CMap (w.alloc (.map #[] 0)) w.heap.size 0 (fun _ => 0) (.map []) :=
  ⟨World.ownsMap_made _ _ _ _, fun _ => rfl, fun x h => by cases h⟩
section
variable {w w' : World} {B n : Nat} {f : Int → Int} {D : DataW Unit}
theorem CMap.lt (h : CMap w B n f D) : B < w.heap.size := h.1.lt
theorem CMap.kept {row : Option Nat} (h : CMap w B n f D) (hg : w.grownBy w' row) (hne : some B ≠ row) : CMap w' B n f D := ⟨h.1.kept hg hne, h.2⟩
theorem CMap.bel (h : CMap w B n f D) (hb : Below w.heap.size w w') : CMap w' B n f D := h.kept (grown_of_below hb none) (by simp)
theorem CMap.mono {n' : Nat} (h : CMap w B n f D) (hn : n ≤ n') : CMap w B n' f D := ⟨h.1.mono hn, h.2⟩
theorem CMap.congr {g : Int → Int} (h : CMap w B n f D) (e : ∀ x, f x = g x) : CMap w B n g D := ⟨h.1, fun x => by rw [h.2.1, e], fun x hx => by rw [← e]; exact h.2.2 x hx⟩
theorem CMap.look (h : CMap w B n f D) (x : Int) (hx : I64 x) : (Instr.lookup 117 (.map (some B)) (.int .i64 x) false).run Tryz.prog w = .ok (.int .i64 (f x)) w := by
  obtain ⟨c, hrun, hat, _⟩ := h.1.lookup_int key_int Tryz.underlying117 Tryz.underlying3 (zero_int w) (keyOf_int_mk Tryz.underlying3 (WalkArith.wf_i64 ⟨hx.1, hx.2⟩))
  have := h.2.1 x
  unfold kI at this
  rw [hat] at this
  simp only [DataW.lit.injEq, Lit.int.injEq, true_and] at this
  rw [hrun, this]
theorem CMap.put (h : CMap w B n f D) (x : Int) (hx : I64 x) (hn : n < maxLen) (v : Int) (hv : 0 < v) (hv2 : v ≤ 9223372036854775807) :
    ∃ w' D', (Instr.mapUpdate 117 (.map (some B)) (.int .i64 x) (.int .i64 v)).run Tryz.prog w = .ok () w' ∧ CMap w' B (n + 1) (fun y => if y = x then v else f y) D' ∧ w.grownBy w' (some B) := by
  obtain ⟨w', hrun, ho, hg⟩ := h.1.update key_int Tryz.underlying117 hn (keyOf_int_mk Tryz.underlying3 (WalkArith.wf_i64 ⟨hx.1, hx.2⟩)) (plainElem_int Tryz.underlying3 (WalkArith.wf_i64 ⟨by omega, hv2⟩))
  have hm := h.1.isMap
  have hk : WideAt.IsKeyLit (kI x) := trivial
  refine ⟨w', _, hrun, ⟨ho, fun y => ?_, fun y hy => ?_⟩, hg⟩
  · simp only []
    by_cases e : y = x
    · subst e
      rw [if_pos rfl]
      exact atKey_put_same hm hk _ _
    · have hne : kI y ≠ kI x := fun h => e (by simpa [kI] using h)
      rw [if_neg e, ← h.2.1 y]
      exact atKey_put_other hne _ _
  · by_cases e : y = x
    · subst e; simpa using hv
    · have hne : kI y ≠ kI x := fun h => e (by simpa [kI] using h)
      simp only [if_neg e]
      exact h.2.2 y ((has_put_other hne _).symm.trans hy)
theorem CMap.has_iff (h : CMap w B n f D) (x : Int) : has D (kI x) = true ↔ 0 < f x := by
  refine ⟨h.2.2 x, fun hf => ?_⟩
  cases hh : has D (kI x) with
  | true => rfl
  | false =>
    have h1 := h.2.1 x
    rw [atKey_of_not_has hh] at h1
    simp only [DataW.lit.injEq, Lit.int.injEq, true_and] at h1
    omega
theorem CMap.at_ (h : CMap w B n f D) {x c : Int} (hat : ∀ zd, D.atKey (.int .i64 x) zd = .lit (.int .i64 c)) : f x = c := by
  have h1 := h.2.1 x
  unfold kI at h1
  rw [hat] at h1
  simp only [DataW.lit.injEq, Lit.int.injEq, true_and] at h1
  exact h1.symm
end
theorem same_kI (x y : Int) : (kI y).sameKey (kI x) = decide (y = x) := by
  by_cases h : y = x
  · subst h
    rw [WideAt.sameKey_self (show WideAt.IsKeyLit (kI y) from trivial), decide_eq_true rfl]
  · rw [decide_eq_false h, Bool.eq_false_iff]
    intro hs
    exact h (by simpa [kI] using WideAt.sameKey_eq hs)
/-- What has been gathered when left tells what is still to come. -/
structure Gat (D : DataW Unit) (f : Int → Int) (least : Int) (left : Lit → Bool) (xs : List Int) : Prop where
  nd : xs.Nodup
  mem : ∀ y : Int, y ∈ xs ↔ (has D (kI y) = true ∧ left (kI y) = false ∧ least ≤ f y)
section
variable {D : DataW Unit} {f : Int → Int} {least : Int} {left : Lit → Bool} {xs : List Int}
theorem Gat.start : Gat D f least (has D) [] := ⟨List.nodup_nil, fun y => by
  simp only [List.not_mem_nil, false_iff]
  rintro ⟨h1, h2, _⟩
  rw [h1] at h2; cases h2⟩
theorem Gat.take (h : Gat D f least left xs) {x : Int} (hl : left (.int .i64 x) = true) (hh : has D (kI x) = true) (hf : least ≤ f x) : Gat D f least (fun z => left z && !z.sameKey (.int .i64 x)) (xs ++ [x]) := by
  have hl : left (kI x) = true := hl
  have hno : x ∉ xs := fun hm => by have := ((h.mem x).1 hm).2.1; rw [hl] at this; cases this
  refine ⟨?_, fun y => ?_⟩
  · rw [List.nodup_append]
    exact ⟨h.nd, by simp, fun a ha b hb => by simp at hb; subst hb; rintro rfl; exact hno ha⟩
  · have := same_kI x y
    unfold kI at this
    rw [List.mem_append, h.mem y]
    simp only [kI, List.mem_singleton, this]
    by_cases e : y = x
    · subst e
      simp only [kI] at hl hh
      simp [hl, hh, hf]
    · simp [e]
theorem Gat.pass (h : Gat D f least left xs) {x : Int} (hf : ¬ least ≤ f x) : Gat D f least (fun z => left z && !z.sameKey (.int .i64 x)) xs := by
  refine ⟨h.nd, fun y => ?_⟩
  have := same_kI x y
  unfold kI at this
  rw [h.mem y]
  simp only [kI, this]
  by_cases e : y = x
  · subst e; simp [hf]
  · simp [e]
theorem Gat.done {w : World} {B n : Nat} (h : Gat D f least left xs) (hc : CMap w B n f D) (hl : ∀ kl, left kl = false) : ∀ y, y ∈ xs ↔ (0 < f y ∧ least ≤ f y) := fun y => by
  rw [h.mem y, hl, hc.has_iff]; simp
end
end Go.Proofs.YtkofkkfjlccjkaaGreat

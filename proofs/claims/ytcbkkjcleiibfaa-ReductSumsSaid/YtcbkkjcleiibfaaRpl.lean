/- The reduct (plain): the reduced body of a rule, rows while its literals are read. -/
import Derived.Test.YtcbkkjcleiibfaaRdp
namespace Go.Proofs.Ytcbkkjcleiibfaa

/-- The weights of the true literals that are not positive. -/
def negS (m : List Int) : List (Int × Int) → Int
  | [] => 0
  | p :: t => (if p.1 ≤ 0 ∧ -p.1 ∉ m then p.2 else 0) + negS m t
def isPos (x : Int) : Bool := decide (0 < x)
def badL (m : List Int) (x : Int) : Bool := !isPos x && decide (-x ∈ m)
def dropB (r : GRule) (m : List Int) : Bool := !r.sum && r.body.any (badL m)
def posW (l : List (Int × Int)) : List Int := (l.filter fun p => isPos p.1).map Prod.snd
def zp (r : GRule) : List (Int × Int) := r.body.zip r.w
def zeroRule : GRule := ⟨false, [], false, 0, [], []⟩
/-- The reduced body of a rule that is not dropped. -/
def posRule (r : GRule) (m : List Int) : GRule :=
  if r.sum then (if r.bound - negS m (zp r) ≤ 0 then zeroRule else ⟨false, [], true, r.bound - negS m (zp r), r.body.filter isPos, posW (zp r)⟩)
  else ⟨false, [], false, r.bound, r.body.filter isPos, []⟩
theorem negS_app (m : List Int) : ∀ (l : List (Int × Int)) (p : Int × Int), negS m (l ++ [p]) = negS m l + (if p.1 ≤ 0 ∧ -p.1 ∉ m then p.2 else 0)
  | [], p => by simp [negS]
  | q :: r, p => by rw [List.cons_append, negS, negS, negS_app m r p]; omega
theorem negS_bd (m : List Int) : ∀ (xs ys : List Int) (k : Nat), (∀ y ∈ ys, 0 ≤ y) → 0 ≤ negS m ((xs.zip ys).take k) ∧ negS m ((xs.zip ys).take k) ≤ ys.sum
  | [], ys, k, h => by simp [negS]; exact sum_nonneg h
  | x :: xs, [], k, _ => by simp [negS]
  | x :: xs, y :: ys, 0, h => by simp [negS]; have := sum_nonneg h; simpa using this
  | x :: xs, y :: ys, k + 1, h => by
    have h1 := h y (by simp)
    have h2 := negS_bd m xs ys k fun q hq => h q (by simp [hq])
    simp only [List.zip_cons_cons, List.take_succ_cons, negS, List.sum_cons]; split <;> omega
theorem zp_at {r : GRule} {k : Nat} {x y : Int} (hx : r.body[k]? = some x) (hy : r.w[k]? = some y) : (zp r)[k]? = some (x, y) := List.getElem?_zip_eq_some.2 ⟨hx, hy⟩
theorem posW_take {l : List (Int × Int)} {k : Nat} {x y : Int} (h : l[k]? = some (x, y)) : posW (l.take (k + 1)) = if isPos x then posW (l.take k) ++ [y] else posW (l.take k) := by
  rw [take_snoc' h]; unfold posW; rw [List.filter_append, List.map_append]
  by_cases h1 : isPos x = true <;> simp [h1]
theorem filt_take {l : List Int} {k : Nat} {x : Int} (h : l[k]? = some x) : (l.take (k + 1)).filter isPos = if isPos x then (l.take k).filter isPos ++ [x] else (l.take k).filter isPos := by
  rw [take_snoc' h, List.filter_append]
  by_cases h1 : isPos x = true <;> simp [h1]
theorem any_take {l : List Int} {k : Nat} {x : Int} {p : Int → Bool} (h : l[k]? = some x) : (l.take (k + 1)).any p = ((l.take k).any p || p x) := by
  rw [take_snoc' h, List.any_append]; simp
theorem posW_len (l : List (Int × Int)) : (posW l).length ≤ l.length := by unfold posW; rw [List.length_map]; exact List.length_filter_le _ _
theorem posW_mem {l : List (Int × Int)} {y : Int} (h : y ∈ posW l) : ∃ x, (x, y) ∈ l := by
  unfold posW at h
  obtain ⟨p, hp, rfl⟩ := List.mem_map.1 h
  exact ⟨p.1, (List.mem_filter.1 hp).1⟩
end Go.Proofs.Ytcbkkjcleiibfaa

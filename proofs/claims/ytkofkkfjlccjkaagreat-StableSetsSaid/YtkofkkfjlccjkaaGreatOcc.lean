/- Plain: the numbers that occur in so many elements of a list of sets, increasing; the reference's minimal sets. -/
import Derived.Test.YtkofkkfjlccjkaaGreatG5
namespace Go.Proofs.YtkofkkfjlccjkaaGreat

/-- In how many elements of l a number occurs. -/
def timesN (l : List (List Int)) (x : Int) : Nat := (l.filter (fun m => decide (x ∈ m))).length
/-- A number put before the first greater one. -/
def insI (x : Int) : List Int → List Int
  | [] => [x]
  | y :: r => if x < y then x :: y :: r else y :: insI x r
def occS (l : List (List Int)) (least : Int) (out : List Int) (x : Int) : List Int := if (timesN l x : Int) < least ∨ x ∈ out then out else insI x out
def occL (l : List (List Int)) (least : Int) : List Int := l.flatten.foldl (occS l least) []
theorem insI_mem (x : Int) : ∀ (out : List Int) (y : Int), y ∈ insI x out ↔ y = x ∨ y ∈ out
  | [], y => by simp [insI]
  | z :: r, y => by
    unfold insI
    split
    · simp
    · rw [List.mem_cons, insI_mem x r y, List.mem_cons]
      constructor
      · rintro (h | h | h)
        · exact .inr (.inl h)
        · exact .inl h
        · exact .inr (.inr h)
      · rintro (h | h | h)
        · exact .inr (.inl h)
        · exact .inl h
        · exact .inr (.inr h)
theorem insI_sorted (x : Int) : ∀ (out : List Int), out.Pairwise (· < ·) → x ∉ out → (insI x out).Pairwise (· < ·)
  | [], _, _ => by simp [insI]
  | y :: r, h, hx => by
    rw [List.pairwise_cons] at h
    unfold insI
    split
    · rename_i hlt
      rw [List.pairwise_cons]
      refine ⟨fun z hz => ?_, List.pairwise_cons.2 h⟩
      rcases List.mem_cons.1 hz with rfl | hz
      · exact hlt
      · have := h.1 z hz; omega
    · rename_i hge
      rw [List.pairwise_cons]
      refine ⟨fun z hz => ?_, insI_sorted x r h.2 (fun hm => hx (by simp [hm]))⟩
      rcases (insI_mem x r z).1 hz with rfl | hz
      · have : z ≠ y := fun e => hx (by simp [e])
        omega
      · exact h.1 z hz
theorem occ_fold (l : List (List Int)) (least : Int) : ∀ (xs out : List Int), out.Pairwise (· < ·) →
    (xs.foldl (occS l least) out).Pairwise (· < ·) ∧ ∀ y, y ∈ xs.foldl (occS l least) out ↔ y ∈ out ∨ (y ∈ xs ∧ least ≤ (timesN l y : Int))
  | [], out, h => ⟨h, fun y => by simp⟩
  | x :: xs, out, h => by
    rw [List.foldl_cons]
    by_cases hc : (timesN l x : Int) < least ∨ x ∈ out
    · have e : occS l least out x = out := if_pos hc
      rw [e]
      obtain ⟨h1, h2⟩ := occ_fold l least xs out h
      refine ⟨h1, fun y => ?_⟩
      rw [h2 y]
      constructor
      · rintro (h3 | ⟨h3, h4⟩)
        · exact .inl h3
        · exact .inr ⟨by simp [h3], h4⟩
      · rintro (h3 | ⟨h3, h4⟩)
        · exact .inl h3
        · rcases List.mem_cons.1 h3 with rfl | h3
          · rcases hc with hc | hc
            · omega
            · exact .inl hc
          · exact .inr ⟨h3, h4⟩
    · have e : occS l least out x = insI x out := if_neg hc
      rw [e]
      have hno : x ∉ out := fun hm => hc (.inr hm)
      have hle : least ≤ (timesN l x : Int) := by
        rcases Int.lt_or_le (timesN l x : Int) least with h3 | h3
        · exact absurd (.inl h3) hc
        · exact h3
      obtain ⟨h1, h2⟩ := occ_fold l least xs (insI x out) (insI_sorted x out h hno)
      refine ⟨h1, fun y => ?_⟩
      rw [h2 y, insI_mem x out y]
      constructor
      · rintro ((rfl | h3) | ⟨h3, h4⟩)
        · exact .inr ⟨by simp, hle⟩
        · exact .inl h3
        · exact .inr ⟨by simp [h3], h4⟩
      · rintro (h3 | ⟨h3, h4⟩)
        · exact .inl (.inr h3)
        · rcases List.mem_cons.1 h3 with rfl | h3
          · exact .inl (.inl rfl)
          · exact .inr ⟨h3, h4⟩
theorem occL_sorted (l : List (List Int)) (least : Int) : (occL l least).Pairwise (· < ·) := (occ_fold l least l.flatten [] List.Pairwise.nil).1
theorem occL_mem (l : List (List Int)) (least : Int) (y : Int) : y ∈ occL l least ↔ (∃ m ∈ l, y ∈ m) ∧ least ≤ (timesN l y : Int) := by
  unfold occL
  rw [(occ_fold l least l.flatten [] List.Pairwise.nil).2 y, List.mem_flatten]
  simp
theorem timesN_pos {l : List (List Int)} {y : Int} : 0 < timesN l y ↔ ∃ m ∈ l, y ∈ m := by
  unfold timesN
  rw [List.length_pos_iff_exists_mem]
  constructor
  · rintro ⟨m, hm⟩
    have := List.mem_filter.1 hm
    exact ⟨m, this.1, by simpa using this.2⟩
  · rintro ⟨m, h1, h2⟩
    exact ⟨m, List.mem_filter.2 ⟨h1, by simpa using h2⟩⟩
/-- A list without repetition that holds what occurs often enough, sorted, is that list. -/
theorem occ_of {l : List (List Int)} {least : Int} {ys : List Int} (hs : ys.Pairwise (· < ·)) (hm : ∀ y, y ∈ ys ↔ (0 < timesN l y ∧ least ≤ (timesN l y : Int))) : ys = occL l least :=
  inc_ext hs (occL_sorted l least) fun y => by rw [hm y, occL_mem, timesN_pos]
/-- The reference's minimal sets. -/
def refMinB (rs : List GRule) (m : List Int) : Bool := satL rs m && (List.range (2 ^ m.length - 1)).all (fun b => !satL rs (pickL m b))
theorem refMin_is (rs : List GRule) (m : List Int) (hm : m.Pairwise (· < ·)) : refMinB rs m = minL rs m := by
  have h := minL_iff rs m
  rw [Bool.eq_iff_iff, h]
  unfold refMinB
  rw [Bool.and_eq_true, List.all_eq_true]
  constructor
  · rintro ⟨h1, h2⟩
    refine ⟨h1, fun s hs hsat => ?_⟩
    obtain ⟨b, hb, rfl⟩ := sub_pick hs
    rcases Nat.lt_or_ge b (2 ^ m.length - 1) with h3 | h3
    · have := h2 b (List.mem_range.2 h3)
      rw [hsat] at this; cases this
    · have : b = 2 ^ m.length - 1 := by omega
      rw [this, pickL_all]
  · rintro ⟨h1, h2⟩
    refine ⟨h1, fun b hb => ?_⟩
    have hb := List.mem_range.1 hb
    cases hs : satL rs (pickL m b) with
    | false => rfl
    | true =>
      exfalso
      have e := h2 _ (pickL_sub m b) hs
      have := pickL_len m b (by omega) (by rw [e])
      omega
end Go.Proofs.YtkofkkfjlccjkaaGreat

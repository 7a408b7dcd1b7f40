/- Ground rules in sets of atoms: truth, bodies, models, reducts (plain definitions). -/
import Derived.Test.YtcbkkjcleiibfaaBase
namespace Go.Proofs.Ytcbkkjcleiibfaa

def trueB (x : Int) (m : List Int) : Bool := if 0 < x then decide (x ∈ m) else !decide (-x ∈ m)
/-- The weights of the true literals. -/
def sumT : List Int → List Int → List Int → Int
  | x :: xs, y :: ys, m => (if trueB x m then y else 0) + sumT xs ys m
  | _, _, _ => 0
def bodyB (r : GRule) (m : List Int) : Bool := if r.sum then decide (r.bound ≤ sumT r.body r.w m) else r.body.all (fun x => trueB x m)
/-- A body that can be reckoned without an overflow. -/
structure BodyOk (r : GRule) : Prop where
  lit : ∀ x ∈ r.body, -9223372036854775808 < x
  len : r.sum = true → r.w.length = r.body.length
  pos : r.sum = true → ∀ y ∈ r.w, 0 ≤ y
  tot : r.sum = true → r.w.sum ≤ 1099511627776
theorem sumT_cons (x y : Int) (xs ys m : List Int) : sumT (x :: xs) (y :: ys) m = (if trueB x m then y else 0) + sumT xs ys m := rfl
theorem sum_nonneg : ∀ {l : List Int}, (∀ y ∈ l, 0 ≤ y) → 0 ≤ l.sum
  | [], _ => by simp
  | y :: r, h => by
    have h1 := h y (by simp)
    have h2 := sum_nonneg (l := r) fun z hz => h z (by simp [hz])
    simp; omega
theorem sum_drop_nonneg {l : List Int} (h : ∀ y ∈ l, 0 ≤ y) (k : Nat) : 0 ≤ (l.drop k).sum := sum_nonneg fun y hy => h y (List.mem_of_mem_drop hy)
def satB (r : GRule) (m : List Int) : Bool := r.choice || !bodyB r m || r.head.any (fun a => decide (a ∈ m))
/-- A member of a list. -/
theorem allD {α : Type} (p : α → Bool) (x : α) (r : List α) : (x :: r).all p = (p x && r.all p) := rfl
/-- Whether some rule derives a from m. -/
def derB (m : List Int) (a : Int) (r : GRule) : Bool := decide (r.head.head? = some a) && bodyB r m
def derivB (rs : List GRule) (m : List Int) (a : Int) : Bool := rs.any (derB m a)
/-- The rounds up to k, and the atoms that have one, in the order in which they come. -/
def stageF (rs : List GRule) (n : Nat) : Nat → (Nat → Int) × List Int
  | 0 => (fun _ => 0, [])
  | k + 1 => (fun i => if (stageF rs n k).1 i = 0 ∧ derivB rs (stageF rs n k).2 ((i : Int) + 1) = true then (k : Int) + 1 else (stageF rs n k).1 i,
      (stageF rs n k).2 ++ ((List.range n).filter (fun (i : Nat) => decide ((stageF rs n k).1 i = 0) && derivB rs (stageF rs n k).2 ((i : Int) + 1))).map (fun (i : Nat) => (i : Int) + 1))
def roundsL (rs : List GRule) (n : Nat) : List Int := (List.range n).map (stageF rs n n).1
def leastL (rs : List GRule) (n : Nat) : List Int := ((List.range n).filter (fun (i : Nat) => decide (0 < (stageF rs n n).1 i))).map (fun (i : Nat) => (i : Int) + 1)
theorem stage_mem (rs : List GRule) (n : Nat) : ∀ k, ∀ x ∈ (stageF rs n k).2, 1 ≤ x ∧ x ≤ (n : Int)
  | 0, x, hx => by simp [stageF] at hx
  | k + 1, x, hx => by
    simp only [stageF, List.mem_append, List.mem_map, List.mem_filter, List.mem_range] at hx
    rcases hx with hx | ⟨i, ⟨hi, _⟩, rfl⟩
    · exact stage_mem rs n k x hx
    · omega
theorem stage_len (rs : List GRule) (n : Nat) : ∀ k, (stageF rs n k).2.length ≤ k * n
  | 0 => by simp [stageF]
  | k + 1 => by
    have h1 := stage_len rs n k
    have h2 := List.length_filter_le (fun (i : Nat) => decide ((stageF rs n k).1 i = 0) && derivB rs (stageF rs n k).2 ((i : Int) + 1)) (List.range n)
    simp only [stageF, List.length_append, List.length_map, List.length_range] at h2 ⊢
    rw [Nat.add_mul]
    omega
theorem stage_bd (rs : List GRule) (n : Nat) : ∀ k i, 0 ≤ (stageF rs n k).1 i ∧ (stageF rs n k).1 i ≤ (k : Int)
  | 0, i => by simp [stageF]
  | k + 1, i => by
    have := stage_bd rs n k i
    simp only [stageF]
    split <;> (constructor <;> omega)
end Go.Proofs.Ytcbkkjcleiibfaa

/- ReductSums: what holds while the parts of 'more' come up in whatever order. -/
import Derived.Test.YtcbkkjcleiibfaaInv
import Derived.Test.YtcbkkjcleiibfaaSms
namespace Go.Proofs.Ytcbkkjcleiibfaa
open Go.RowKit

abbrev rowZ : Array Value := #[.bool false, .slice none 0 0, .bool false, .int .i64 0, .slice none 0 0, .slice none 0 0]
abbrev rowM (z : Int) (u : Value) : Array Value := #[.bool false, .slice none 0 0, .bool true, .int .i64 z, u, .slice none 0 0]
/-- b0 .. b12: what has come up. -/
structure SumJ (X : World) (g12 : Nat) (bq z f : Int) (bA : Option Addr) (bl bc : Nat) (body : List Int) (w : World) (b0 b1 b2 b3 b4 b5 b6 b7 b8 b9 b10 b11 b12 : Bool) (u65 u66 u67 u68 u69 u70 u71 u72 u73 u74 u75 u13 : Value) : Prop where
  bel : Below X.heap.size X w
  f0 : b0 = true → u65 = .pointer (some ⟨g12, 3, none⟩)
  f1 : b1 = true → u66 = .int .i64 bq
  f2 : b2 = true → u67 = .int .i64 f
  f3 : b3 = true → u68 = .int .i64 z
  f5 : b5 = true → u70 = .pointer (some ⟨g12, 4, none⟩)
  f6 : b6 = true → u71 = .slice bA bl bc
  f10 : b10 = true → u75 = .agg (rowM z u74)
  d7 : b7 = true → b4 = true
  d9 : b9 = true → b7 = true ∧ b8 = true
  d10 : b10 = true → b9 = true
  d12 : b12 = true → b10 = true ∧ b11 = true
  row : ∃ v l xs, OwnI w X.heap.size v l xs ∧ (b4 = true → b7 = false → u69 = v ∧ l = 0 ∧ xs = []) ∧ (b7 = true → b9 = false → u72 = v ∧ l = bl ∧ xs = body) ∧ (b9 = true → u74 = v ∧ l = bl + 2 ∧ xs = body ++ [1, -1]) ∧
    (b8 = true → b9 = false → ∃ g, u73 = .slice (some ⟨g, 0, none⟩) 2 2 ∧ SlIs intR w (some ⟨g, 0, none⟩) 2 2 [1, -1] ∧ v.ownBlock ≠ some g) ∧
    (b11 = true → ∃ g, u13 = .pointer (some ⟨g, 0, none⟩) ∧ X.heap.size ≤ g ∧ v.ownBlock ≠ some g ∧ Blk w g 26 (if b12 = true then rowM z u74 else rowZ))
section
variable {X : World} {g12 : Nat} {bq z f : Int} {bA : Option Addr} {bl bc : Nat} {body : List Int} {w : World} {b0 b1 b2 b3 b4 b5 b6 b7 b8 b9 b10 b11 b12 : Bool} {u65 u66 u67 u68 u69 u70 u71 u72 u73 u74 u75 u13 : Value}
theorem SumJ.start (X : World) (g12 : Nat) (bq z f : Int) (bA : Option Addr) (bl bc : Nat) (body : List Int) (u65 u66 u67 u68 u69 u70 u71 u72 u73 u74 u75 u13 : Value) :
    SumJ X g12 bq z f bA bl bc body X.drew false false false false false false false false false false false false false u65 u66 u67 u68 u69 u70 u71 u72 u73 u74 u75 u13 := by
  refine ⟨(Below.refl _ _).drew, ?_, ?_, ?_, ?_, ?_, ?_, ?_, ?_, ?_, ?_, ?_, ⟨_, 0, [], OwnI.nil _ _, ?_, ?_, ?_, ?_, ?_⟩⟩ <;> simp
theorem new_ne {w : World} {base : Nat} {v : Value} {l : Nat} {xs : List Int} (h : OwnI w base v l xs) : v.ownBlock ≠ some w.heap.size := fun e => by
  have := (h.2.lt _ e).2; omega
theorem SlIs.keptG {w w' : World} {A : Option Addr} {l c : Nat} {xs : List Int} (h : SlIs intR w A l c xs) {v : Value} (hg : w.grownBy w' v.ownBlock) (hne : ∀ ad, A = some ad → v.ownBlock ≠ some ad.block) : SlIs intR w' A l c xs :=
  h.keptM (M := v.ownBlock.toList) ((Kept.refl _ w).grown hg fun k hk => .inl (by rw [hk]; simp)) (fun _ ad e hm => hne ad e (by
    cases hv : v.ownBlock with
    | none => rw [hv] at hm; simp at hm
    | some y => rw [hv] at hm; simp at hm; rw [hm]))
/-- The empty row is made. -/
theorem SumJ.op4 (h : SumJ X g12 bq z f bA bl bc body w b0 b1 b2 b3 false b5 b6 b7 b8 b9 b10 b11 b12 u65 u66 u67 u68 u69 u70 u71 u72 u73 u74 u75 u13) :
    SumJ X g12 bq z f bA bl bc body (w.alloc (.cells #[] 3)) b0 b1 b2 b3 true b5 b6 b7 b8 b9 b10 b11 b12 u65 u66 u67 u68 (.slice (some ⟨w.heap.size, 0, none⟩) 0 0) u70 u71 u72 u73 u74 u75 u13 := by
  have e7 : b7 = false := by
    cases hb : b7 with
    | false => rfl
    | true => exact absurd (h.d7 hb) (by simp)
  have e9 : b9 = false := by
    cases hb : b9 with
    | false => rfl
    | true => have := (h.d9 hb).1; rw [e7] at this; cases this
  obtain ⟨v, l, xs, ho, _, _, _, h8, h11⟩ := h.row
  refine { h with bel := bel_trans h.bel (bel_alloc _ _), d7 := fun _ => rfl, row := ⟨_, 0, [], own_empty rfl h.bel.size, fun _ _ => ⟨rfl, rfl, rfl⟩, fun hb => (by rw [e7] at hb; cases hb), fun hb => (by rw [e9] at hb; cases hb), fun hb hc => ?_, fun hb => ?_⟩ }
  · obtain ⟨g, e, hs, _⟩ := h8 hb hc
    refine ⟨g, e, hs.ext (bel_alloc _ _), fun e2 => ?_⟩
    have h1 : w.heap.size = g := by simpa [Value.ownBlock] using e2
    have h2 : g < w.heap.size := hs.blk_lt (by omega) rfl
    omega
  · obtain ⟨g, e, hx, _, hB⟩ := h11 hb
    refine ⟨g, e, hx, fun e2 => ?_, hB.alloc _⟩
    have h1 : w.heap.size = g := by simpa [Value.ownBlock] using e2
    have h2 := hB.lt
    omega
/-- The body is appended. -/
theorem SumJ.op7 (h : SumJ X g12 bq z f bA bl bc body w b0 b1 b2 b3 true b5 b6 false b8 b9 b10 b11 b12 u65 u66 u67 u68 u69 u70 u71 u72 u73 u74 u75 u13) {v' : Value} {w' : World}
    (ho : OwnI w' X.heap.size v' (0 + bl) ([] ++ body)) (hg : w.grownBy w' u69.ownBlock) (hat : ∀ k, v'.ownBlock = some k → u69.ownBlock = some k ∨ w.heap.size ≤ k) :
    SumJ X g12 bq z f bA bl bc body w' b0 b1 b2 b3 true b5 b6 true b8 b9 b10 b11 b12 u65 u66 u67 u68 u69 u70 u71 v' u73 u74 u75 u13 := by
  have e9 : b9 = false := by
    cases hb : b9 with
    | false => rfl
    | true => have := (h.d9 hb).1; cases this
  obtain ⟨v, l, xs, hv, h4, _, _, h8, h11⟩ := h.row
  obtain ⟨rfl, _, _⟩ := h4 rfl rfl
  refine { h with bel := bel_grown h.bel hg h.bel.size (fun k hk => (hv.2.lt k hk).1), d7 := fun _ => rfl, d9 := fun hb => (by rw [e9] at hb; cases hb), row := ⟨v', bl, body, by simpa using ho, fun _ hb => (by cases hb), fun _ _ => ⟨rfl, rfl, rfl⟩, fun hb => (by rw [e9] at hb; cases hb), fun hb hc => ?_, fun hb => ?_⟩ }
  · obtain ⟨g, e, hs, hne⟩ := h8 hb hc
    refine ⟨g, e, hs.keptG hg (fun ad e2 => by cases e2; exact hne), fun e2 => ?_⟩
    rcases hat g e2 with h1 | h1
    · exact hne h1
    · have h2 : g < w.heap.size := hs.blk_lt (by omega) rfl
      omega
  · obtain ⟨g, e, hx, hne, hB⟩ := h11 hb
    refine ⟨g, e, hx, fun e2 => ?_, hB.grown hg (fun e2 => hne e2.symm)⟩
    rcases hat g e2 with h1 | h1
    · exact hne h1
    · have h2 := hB.lt
      omega
/-- The pair is made. -/
theorem SumJ.op8 (h : SumJ X g12 bq z f bA bl bc body w b0 b1 b2 b3 b4 b5 b6 b7 false b9 b10 b11 b12 u65 u66 u67 u68 u69 u70 u71 u72 u73 u74 u75 u13) :
    SumJ X g12 bq z f bA bl bc body (w.alloc (.cells #[.int .i64 1, .int .i64 (-1)] 3)) b0 b1 b2 b3 b4 b5 b6 b7 true b9 b10 b11 b12 u65 u66 u67 u68 u69 u70 u71 u72 (.slice (some ⟨w.heap.size, 0, none⟩) 2 2) u74 u75 u13 := by
  have e9 : b9 = false := by
    cases hb : b9 with
    | false => rfl
    | true => have := (h.d9 hb).2; cases this
  obtain ⟨v, l, xs, hv, h4, h7, _, _, h11⟩ := h.row
  refine { h with bel := bel_trans h.bel (bel_alloc _ _), d9 := fun hb => (by rw [e9] at hb; cases hb), row := ⟨v, l, xs, hv.bel (bel_alloc _ _), h4, h7, fun hb => (by rw [e9] at hb; cases hb), fun _ _ => ⟨_, rfl, sl_ints [1, -1] (Blk.new w 3 _) rfl (by omega) (by simp [I64]), new_ne hv⟩, fun hb => ?_⟩ }
  obtain ⟨g, e, hx, hne, hB⟩ := h11 hb
  exact ⟨g, e, hx, hne, hB.alloc _⟩
/-- The pair is appended. -/
theorem SumJ.op9 (h : SumJ X g12 bq z f bA bl bc body w b0 b1 b2 b3 b4 b5 b6 true true false b10 b11 b12 u65 u66 u67 u68 u69 u70 u71 u72 u73 u74 u75 u13) {v' : Value} {w' : World}
    (ho : OwnI w' X.heap.size v' (bl + 2) (body ++ [1, -1])) (hg : w.grownBy w' u72.ownBlock) (hat : ∀ k, v'.ownBlock = some k → u72.ownBlock = some k ∨ w.heap.size ≤ k) :
    SumJ X g12 bq z f bA bl bc body w' b0 b1 b2 b3 b4 b5 b6 true true true b10 b11 b12 u65 u66 u67 u68 u69 u70 u71 u72 u73 v' u75 u13 := by
  have e10 : b10 = false := by
    cases hb : b10 with
    | false => rfl
    | true => exact absurd (h.d10 hb) (by simp)
  have e12 : b12 = false := by
    cases hb : b12 with
    | false => rfl
    | true => have := (h.d12 hb).1; rw [e10] at this; cases this
  obtain ⟨v, l, xs, hv, _, h7, _, _, h11⟩ := h.row
  obtain ⟨rfl, _, _⟩ := h7 rfl rfl
  refine { h with bel := bel_grown h.bel hg h.bel.size (fun k hk => (hv.2.lt k hk).1), f10 := fun hb => (by rw [e10] at hb; cases hb), d9 := fun _ => ⟨rfl, rfl⟩, d10 := fun _ => rfl, row := ⟨v', bl + 2, body ++ [1, -1], ho, fun _ hb => (by cases hb), fun _ hb => (by cases hb), fun _ => ⟨rfl, rfl, rfl⟩, fun _ hb => (by cases hb), fun hb => ?_⟩ }
  obtain ⟨g, e, hx, hne, hB⟩ := h11 hb
  rw [e12] at hB ⊢
  refine ⟨g, e, hx, fun e2 => ?_, hB.grown hg (fun e2 => hne e2.symm)⟩
  rcases hat g e2 with h1 | h1
  · exact hne h1
  · have h2 := hB.lt
    omega
/-- The variable is made. -/
theorem SumJ.op11 (h : SumJ X g12 bq z f bA bl bc body w b0 b1 b2 b3 b4 b5 b6 b7 b8 b9 b10 false b12 u65 u66 u67 u68 u69 u70 u71 u72 u73 u74 u75 u13) :
    SumJ X g12 bq z f bA bl bc body (w.alloc (.cells rowZ 26)) b0 b1 b2 b3 b4 b5 b6 b7 b8 b9 b10 true b12 u65 u66 u67 u68 u69 u70 u71 u72 u73 u74 u75 (.pointer (some ⟨w.heap.size, 0, none⟩)) := by
  have e12 : b12 = false := by
    cases hb : b12 with
    | false => rfl
    | true => have := (h.d12 hb).2; cases this
  obtain ⟨v, l, xs, hv, h4, h7, h9, h8, _⟩ := h.row
  refine { h with bel := bel_trans h.bel (bel_alloc _ _), d12 := fun hb => (by rw [e12] at hb; cases hb), row := ⟨v, l, xs, hv.bel (bel_alloc _ _), h4, h7, h9, fun hb hc => ?_, fun _ => ⟨_, rfl, h.bel.size, new_ne hv, by rw [e12]; exact Blk.new _ _ _⟩⟩ }
  obtain ⟨g, e, hs, hne⟩ := h8 hb hc
  exact ⟨g, e, hs.ext (bel_alloc _ _), hne⟩
/-- The variable is laid. -/
theorem SumJ.op12 {g : Nat} (h : SumJ X g12 bq z f bA bl bc body w b0 b1 b2 b3 b4 b5 b6 b7 b8 b9 true true false u65 u66 u67 u68 u69 u70 u71 u72 u73 u74 u75 (.pointer (some ⟨g, 0, none⟩))) :
    SumJ X g12 bq z f bA bl bc body (w.setRow g (rowM z u74)) b0 b1 b2 b3 b4 b5 b6 b7 b8 b9 true true true u65 u66 u67 u68 u69 u70 u71 u72 u73 u74 u75 (.pointer (some ⟨g, 0, none⟩)) := by
  have e9 := h.d10 rfl
  obtain ⟨v, l, xs, hv, h4, h7, h9, _, h11⟩ := h.row
  obtain ⟨g', e, hx, hne, hB⟩ := h11 rfl
  cases e
  have hk : Kept [g] w (w.setRow g (rowM z u74)) := (Kept.refl _ _).row (.inl (by simp)) _
  refine { h with bel := Kept.below h.bel hk h.bel.size (fun k hm => by simp at hm; omega), d12 := fun _ => ⟨rfl, rfl⟩, row := ⟨v, l, xs, hv.keptS hk (fun k hk2 hm => by simp at hm; subst hm; exact hne hk2), h4, h7, h9, fun _ hb => (by rw [e9] at hb; cases hb), fun _ => ⟨g, rfl, hx, hne, hB.row _⟩⟩ }
theorem SumJ.blk (h : SumJ X g12 bq z f bA bl bc body w b0 b1 b2 b3 b4 b5 b6 b7 b8 b9 b10 true false u65 u66 u67 u68 u69 u70 u71 u72 u73 u74 u75 u13) : ∃ g, u13 = .pointer (some ⟨g, 0, none⟩) ∧ Blk w g 26 rowZ := by
  obtain ⟨v, l, xs, _, _, _, _, _, h11⟩ := h.row
  obtain ⟨g, e, _, _, hB⟩ := h11 rfl
  exact ⟨g, e, hB⟩
/-- All has come up. -/
theorem SumJ.done (h : SumJ X g12 bq z f bA bl bc body w b0 b1 b2 b3 b4 b5 b6 b7 b8 true b10 true true u65 u66 u67 u68 u69 u70 u71 u72 u73 u74 u75 u13) (hb : ∀ x ∈ body, I64 x) (hl : bl ≤ 8000) :
    ∃ g ga cap, u13 = .pointer (some ⟨g, 0, none⟩) ∧ u74 = .slice (some ⟨ga, 0, none⟩) (bl + 2) cap ∧ X.heap.size ≤ g ∧ ga ≠ g ∧ Blk w g 26 (rowM z (.slice (some ⟨ga, 0, none⟩) (bl + 2) cap)) ∧ SlIs intR w (some ⟨ga, 0, none⟩) (bl + 2) cap (body ++ [1, -1]) ∧ Below X.heap.size X w := by
  obtain ⟨v, l, xs, hv, _, _, h9, _, h11⟩ := h.row
  obtain ⟨rfl, rfl, rfl⟩ := h9 rfl
  obtain ⟨g, e, hx, hne, hB⟩ := h11 rfl
  obtain ⟨ga, cap, rfl, _, _⟩ := World.ownsRow.form hv.2 (by omega)
  obtain ⟨A, c, e2, hs⟩ := hv.sl (by omega) (fun x hx => by
    rcases List.mem_append.1 hx with h1 | h1
    · exact hb x h1
    · simp at h1; rcases h1 with rfl | rfl <;> simp [I64])
  cases e2
  exact ⟨g, ga, cap, e, rfl, hx, fun e3 => hne (by rw [e3]; rfl), hB, hs, h.bel⟩
end
end Go.Proofs.Ytcbkkjcleiibfaa

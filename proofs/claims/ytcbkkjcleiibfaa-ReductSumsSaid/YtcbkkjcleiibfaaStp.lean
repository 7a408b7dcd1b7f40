/- append of ints at a step of a region that draws; rows without an element. -/
import Derived.Test.YtcbkkjcleiibfaaRd8
import Derived.Test.YtcbkkjcleiibfaaExa
namespace Go.Proofs.Ytcbkkjcleiibfaa
open Go.RowKit

/-- append(v, xs...) at ints, in a region that draws its order. -/
theorem step_appS {ops : Array Oper} {o : Oper} {a : Act} {K : Act → World → Prop} {Q : Exit → Act → World → Prop} {E : Prop} {w : World} (hgd : o.guard = none) (s x : Operand)
    (ho : o.op = .call { callee := .builtin .append, args := #[s, x], argTypes := #[24, 24] })
    {base : Nat} {v : Value} {l : Nat} {xs : List Int} {A : Option Addr} {m c : Nat} {ys : List Int} (hs : a.eval s = v) (hx : a.eval x = .slice A m c)
    (h : OwnI w base v l xs) (hy : SlIs intR w A m c ys) (hl : l + m ≤ 17592186044416) (hb : base ≤ w.heap.size)
    (hK : ∀ v' w', OwnI w' base v' (l + m) (xs ++ ys) → w.grownBy w' v.ownBlock → (∀ k, v'.ownBlock = some k → v.ownBlock = some k ∨ w.heap.size ≤ k) → K (a.put o.dst v') w') :
    if Region.wanted o (yielded ops a.tmps) = true then Oper.wp Try.prog o a w K Q else E := by
  have hw : Region.wanted o (yielded ops a.tmps) = true := by simp [Region.wanted, hgd]
  rw [if_pos hw]
  obtain ⟨v', w', hrun, h1, h2, h3⟩ := appS h hy hl hb o.type
  unfold Oper.wp execOp
  simp only [ho, resolve, invoke, builtin, Sem.run_bind, Sem.run_pure, Result.andThen_ok, List.map_toArray, List.map_cons, List.map_nil, hs, hx, hrun]
  exact hK _ _ h1 h2 h3
/-- A row that was made without an element. -/
theorem own_empty {w : World} {g base : Nat} (hg : w.heap.size = g) (hb : base ≤ g) : OwnI (w.alloc (.cells #[] 3)) base (.slice (some ⟨g, 0, none⟩) 0 0) 0 [] := by
  subst hg
  have h : OwnI (w.alloc (.cells #[] 3)) w.heap.size (.slice (some ⟨w.heap.size, 0, none⟩) 0 0) 0 [] := ⟨rfl, World.ownsRow_made _ #[] 0 (Nat.le_refl _) (by simp [maxLen]) (by simp)⟩
  exact h.mono hb
/-- One goal behind a region whose orders all end alike. -/
theorem wp_cut {P : Program} {c : Code} {Q : Exit → Act → World → Prop} {a : Act} {w : World} (A : Act) (W : World) (h : c.wp P (fun e a' w' => e = Exit.normal ∧ a' = A ∧ w' = W) a w) (k : Q Exit.normal A W) : c.wp P Q a w :=
  Code.wp_mono (fun _ _ _ ⟨h1, h2, h3⟩ => by rw [h1, h2, h3]; exact k) h
/-- One goal behind a region whose orders all end in a new row (its block, its capacity, the world). -/
theorem wp_cut3 {P : Program} {c : Code} {Q : Exit → Act → World → Prop} {a : Act} {w : World} (F : Nat → Nat → World → Prop) (A : Nat → Nat → World → Act) (V : Nat → Nat → World → World)
    (h : c.wp P (fun e a' w' => e = Exit.normal ∧ ∃ g k x, F g k x ∧ a' = A g k x ∧ w' = V g k x) a w) (k : ∀ g k x, F g k x → Q Exit.normal (A g k x) (V g k x)) : c.wp P Q a w :=
  Code.wp_mono (fun _ _ _ ⟨h1, g, c, x, hF, h2, h3⟩ => by rw [h1, h2, h3]; exact k g c x hF) h
/-- One goal behind a region whose orders all end in a slice that a callee made. -/
theorem wp_cut5 {P : Program} {c : Code} {Q : Exit → Act → World → Prop} {a : Act} {w : World} (F : Option Addr → Nat → Nat → World → Prop) (A : Option Addr → Nat → Nat → World → Act) (V : Option Addr → Nat → Nat → World → World)
    (h : c.wp P (fun e a' w' => e = Exit.normal ∧ ∃ g l k x, F g l k x ∧ a' = A g l k x ∧ w' = V g l k x) a w) (k : ∀ g l k x, F g l k x → Q Exit.normal (A g l k x) (V g l k x)) : c.wp P Q a w :=
  Code.wp_mono (fun _ _ _ ⟨h1, g, l, c, x, hF, h2, h3⟩ => by rw [h1, h2, h3]; exact k g l c x hF) h
end Go.Proofs.Ytcbkkjcleiibfaa

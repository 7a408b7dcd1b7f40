/- StableAntichain: what holds while its drawn regions come up; rows of rules while other rows grow. Printed by mkant2.py. -/
import Derived.Test.YtfopcpmckplemaaAnp
import Derived.Test.YtfopcpmckplemaaLb3
namespace Go.Proofs.Ytfopcpmckplemaa
open Go.RowKit

theorem OutRow.turn {W V : World} {base : Nat} {v : Value} {cs : List Value} {M M' S : List Nat} {pre : List GRule} (h : OutRow W base v cs M pre) (hk : Kept S W V) (hS : ∀ k ∈ S, (k ∈ M ∨ W.heap.size ≤ k) ∧ v.ownBlock ≠ some k) (hm : ∀ k ∈ M', k ∈ M ∨ W.heap.size ≤ k) : OutRow V base v cs M' pre := by
  obtain ⟨ho, hr⟩ := h
  have off : ∀ {M' : List Nat} {A : Option Addr} {l c : Nat} {xs : List Int}, (∀ k ∈ M', k ∈ M ∨ W.heap.size ≤ k) → SlIs intR W A l c xs → Off M A l → Off M' A l := fun hm hs ho h0 ad e hq => by
    rcases hm _ hq with h1 | h1
    · exact ho h0 ad e h1
    · have := hs.blk_lt h0 e; omega
  have hS' : ∀ k ∈ S, k ∈ M ∨ W.heap.size ≤ k := fun k hk => (hS k hk).1
  refine ⟨ownsRow_keptS ho hk (fun q hq hm => (hS q hm).2 hq), fun i x hx => ?_⟩
  obtain ⟨hA, hl, hc, bA, bl, bc, wA, wl, wc, h1, h2, h3, h4, h5⟩ := hr i x hx
  exact ⟨hA, hl, hc, bA, bl, bc, wA, wl, wc, h1, h2.keptM hk (off hS' h2.head h3) (off hS' h2.body h4) (off hS' h2.wt h5), off hm h2.head h3, off hm h2.body h4, off hm h2.wt h5⟩
theorem OutRow.nil (W : World) (base : Nat) (M : List Nat) : OutRow W base (.slice none 0 0) [] M [] := ⟨World.ownsRow_nil W base _ _, fun i x h => by simp at h⟩
theorem SlIs.take {α : Type} {R : Rep α} {w : World} {A : Option Addr} {l c : Nat} {xs : List α} (h : SlIs R w A l c xs) {m : Nat} (hm : m ≤ l) : SlIs R w A m c (xs.take m) := by
  refine ⟨by rw [List.length_take]; have := h.len; omega, Nat.le_trans hm h.2.1, ⟨h.2.2.1.1, Nat.le_trans hm h.2.2.1.2⟩, fun h0 => ?_⟩
  obtain ⟨ad, e, hl, hc⟩ := h.2.2.2 (by omega)
  refine ⟨ad, e, hl, fun i x hx => hc i x ?_⟩
  rw [List.getElem?_take] at hx
  split at hx
  · exact hx
  · cases hx

structure PosJ (X : World) (g6 : Nat) (hA : Option Addr) (hl mh hc : Nat) (sm : Bool) (bd : Int) (W : World) (b0 b1 b2 b3 b4 b5 b6 b7 b8 b9 b10 b11 b12 b13 : Bool) (u46 u47 u48 u49 u50 u51 u52 u53 u54 u55 u56 u57 u7 : Value) : Prop where
  f0 : b0 = true → u46 = .pointer (some ⟨g6, 1, none⟩)
  f1 : b1 = true → u47 = .slice hA hl hc
  f2 : b2 = true → u48 = .pointer (some ⟨g6, 1, none⟩)
  f3 : b3 = true → u49 = .slice hA hl hc
  f4 : b4 = true → u50 = .int .i64 (hl : Int)
  f5 : b5 = true → u51 = .int .i64 (mh : Int)
  f6 : b6 = true → u52 = .slice hA mh hc
  f7 : b7 = true → u53 = .pointer (some ⟨g6, 2, none⟩)
  f8 : b8 = true → u54 = .bool sm
  f9 : b9 = true → u55 = .pointer (some ⟨g6, 3, none⟩)
  f10 : b10 = true → u56 = .int .i64 bd
  f11 : b11 = true → u57 = .agg #[.bool false, .slice hA mh hc, .bool sm, .int .i64 bd, .slice none 0 0, .slice none 0 0]
  d13 : b13 = true → b12 = true ∧ b11 = true
  bel : Below X.heap.size X W
  a7 : b12 = true → ∃ g, u7 = .pointer (some ⟨g, 0, none⟩) ∧ X.heap.size ≤ g ∧ (b13 = false → Blk W g 32 #[.bool false, .slice none 0 0, .bool false, .int .i64 0, .slice none 0 0, .slice none 0 0]) ∧ (b13 = true → Blk W g 32 #[.bool false, .slice hA mh hc, .bool sm, .int .i64 bd, .slice none 0 0, .slice none 0 0])
section
variable {X : World} {g6 : Nat} {hA : Option Addr} {hl mh hc : Nat} {sm : Bool} {bd : Int} {W : World} {b0 b1 b2 b3 b4 b5 b6 b7 b8 b9 b10 b11 b12 b13 : Bool} {u46 u47 u48 u49 u50 u51 u52 u53 u54 u55 u56 u57 u7 : Value}
theorem PosJ.start (h : Below X.heap.size X W) : PosJ X g6 hA hl mh hc sm bd W false false false false false false false false false false false false false false u46 u47 u48 u49 u50 u51 u52 u53 u54 u55 u56 u57 u7 :=
  ⟨by simp, by simp, by simp, by simp, by simp, by simp, by simp, by simp, by simp, by simp, by simp, by simp, by simp, h, by simp⟩
theorem PosJ.op12 (h : PosJ X g6 hA hl mh hc sm bd W b0 b1 b2 b3 b4 b5 b6 b7 b8 b9 b10 b11 false b13 u46 u47 u48 u49 u50 u51 u52 u53 u54 u55 u56 u57 u7) : PosJ X g6 hA hl mh hc sm bd (W.alloc (.cells #[.bool false, .slice none 0 0, .bool false, .int .i64 0, .slice none 0 0, .slice none 0 0] 32)) b0 b1 b2 b3 b4 b5 b6 b7 b8 b9 b10 b11 true b13 u46 u47 u48 u49 u50 u51 u52 u53 u54 u55 u56 u57 (.pointer (some ⟨W.heap.size, 0, none⟩)) := by
  have h13 : b13 = false := by cases b13 with | false => rfl | true => have := (h.d13 rfl).1; cases this
  subst h13
  exact { h with d13 := by simp, bel := h.bel.alloc h.bel.size _, a7 := fun _ => ⟨_, rfl, h.bel.size, fun _ => Blk.new _ _ _, by simp⟩ }
theorem PosJ.op13 (h : PosJ X g6 hA hl mh hc sm bd W b0 b1 b2 b3 b4 b5 b6 b7 b8 b9 b10 true true false u46 u47 u48 u49 u50 u51 u52 u53 u54 u55 u56 u57 u7) : ∃ g, u7 = .pointer (some ⟨g, 0, none⟩) ∧ Blk W g 32 #[.bool false, .slice none 0 0, .bool false, .int .i64 0, .slice none 0 0, .slice none 0 0] ∧ PosJ X g6 hA hl mh hc sm bd (W.setRow g #[.bool false, .slice hA mh hc, .bool sm, .int .i64 bd, .slice none 0 0, .slice none 0 0]) b0 b1 b2 b3 b4 b5 b6 b7 b8 b9 b10 true true true u46 u47 u48 u49 u50 u51 u52 u53 u54 u55 u56 u57 u7 := by
  obtain ⟨g, rfl, e2, e3, -⟩ := h.a7 rfl
  exact ⟨g, rfl, e3 rfl, { h with d13 := fun _ => ⟨rfl, rfl⟩, bel := below_row h.bel e2 _, a7 := fun _ => ⟨g, rfl, e2, by simp, fun _ => (e3 rfl).row _⟩ }⟩
end
structure WgtJ (X : World) (g6 g7 B7 : Nat) (vw : Value) (lw : Nat) (ws : List Int) (wA : Option Addr) (wl wc : Nat) (i wb wo : Nat) (y : Int) (W : World) (b0 b1 b2 b3 b4 b5 b6 b7 b8 b9 b10 : Bool) (u76 u77 u78 u79 u80 u81 u82 u83 u84 u85 : Value) : Prop where
  f0 : b0 = true → u76 = .pointer (some ⟨g7, 5, none⟩)
  f1 : b1 = true → u77 = vw
  f2 : b2 = true → u78 = .pointer (some ⟨g6, 5, none⟩)
  f3 : b3 = true → u79 = .slice wA wl wc
  f4 : b4 = true → u80 = .int .i64 (i : Int)
  f5 : b5 = true → u81 = .pointer (some ⟨wb, wo + i, none⟩)
  f6 : b6 = true → u82 = .int .i64 y
  f9 : b9 = true → u85 = .pointer (some ⟨g7, 5, none⟩)
  d5 : b5 = true → b3 = true
  d6 : b6 = true → b5 = true
  d7 : b7 = true → b6 = true
  d8 : b8 = true → b7 = true ∧ b1 = true
  d10 : b10 = true → b8 = true ∧ b9 = true
  bel : b8 = false → Below X.heap.size X W
  own : b8 = false → OwnI W B7 vw lw ws
  box : b7 = true → b8 = false → ∃ g, u83 = .slice (some ⟨g, 0, none⟩) 1 1 ∧ Blk W g 3 #[.int .i64 y] ∧ X.heap.size ≤ g
  row : b8 = true → b10 = false → ∃ A c, u84 = .slice A (lw + 1) c ∧ OwnI W B7 u84 (lw + 1) (ws ++ [y]) ∧ X.grownBy W vw.ownBlock ∧ (∀ k, u84.ownBlock = some k → vw.ownBlock = some k ∨ X.heap.size ≤ k)
  fin : b10 = true → ∃ W1 A c, u84 = .slice A (lw + 1) c ∧ OwnI W1 B7 u84 (lw + 1) (ws ++ [y]) ∧ X.grownBy W1 vw.ownBlock ∧ (∀ k, u84.ownBlock = some k → vw.ownBlock = some k ∨ X.heap.size ≤ k) ∧ W = W1.setCell ⟨g7, 5, none⟩ u84
section
variable {X : World} {g6 g7 B7 : Nat} {vw : Value} {lw : Nat} {ws : List Int} {wA : Option Addr} {wl wc : Nat} {i wb wo : Nat} {y : Int} {W : World} {b0 b1 b2 b3 b4 b5 b6 b7 b8 b9 b10 : Bool} {u76 u77 u78 u79 u80 u81 u82 u83 u84 u85 : Value}
theorem WgtJ.start (h : Below X.heap.size X W) (ho : OwnI W B7 vw lw ws) : WgtJ X g6 g7 B7 vw lw ws wA wl wc i wb wo y W false false false false false false false false false false false u76 u77 u78 u79 u80 u81 u82 u83 u84 u85 :=
  ⟨by simp, by simp, by simp, by simp, by simp, by simp, by simp, by simp, by simp, by simp, by simp, by simp, by simp, fun _ => h, fun _ => ho, by simp, by simp, by simp⟩
theorem WgtJ.n8 (h : WgtJ X g6 g7 B7 vw lw ws wA wl wc i wb wo y W b0 b1 b2 b3 b4 b5 b6 false b8 b9 b10 u76 u77 u78 u79 u80 u81 u82 u83 u84 u85) : b8 = false := by
  cases b8 with | false => rfl | true => have := (h.d8 rfl).1; cases this
theorem WgtJ.n8b (h : WgtJ X g6 g7 B7 vw lw ws wA wl wc i wb wo y W b0 b1 b2 b3 b4 b5 b6 b7 b8 b9 b10 u76 u77 u78 u79 u80 u81 u82 u83 u84 u85) (hb : (b1 && b3 && b6) = false) : b8 = false := by
  cases b8 with
  | false => rfl
  | true =>
    obtain ⟨rfl, rfl⟩ := h.d8 rfl
    obtain rfl := h.d7 rfl
    obtain rfl := h.d6 rfl
    obtain rfl := h.d5 rfl
    cases hb
theorem WgtJ.c5 (h : WgtJ X g6 g7 B7 vw lw ws wA wl wc i wb wo y W b0 b1 b2 b3 b4 b5 b6 b7 true b9 false u76 u77 u78 u79 u80 u81 u82 u83 u84 u85) {t : TypeId} {cs : Array Value} (hb : Blk X g7 t cs) (hne : vw.ownBlock ≠ some g7) : Blk W g7 t cs := by
  obtain ⟨A, c, e, h1, h2, h3⟩ := h.row rfl rfl
  exact hb.grown h2 (fun e => hne e.symm)
theorem WgtJ.op7 (h : WgtJ X g6 g7 B7 vw lw ws wA wl wc i wb wo y W b0 b1 b2 b3 b4 b5 true false b8 b9 b10 u76 u77 u78 u79 u80 u81 u82 u83 u84 u85) : WgtJ X g6 g7 B7 vw lw ws wA wl wc i wb wo y (W.alloc (.cells #[.int .i64 y] 3)) b0 b1 b2 b3 b4 b5 true true b8 b9 b10 u76 u77 u78 u79 u80 u81 u82 (.slice (some ⟨W.heap.size, 0, none⟩) 1 1) u84 u85 := by
  have h8 := h.n8
  subst h8
  have h10 : b10 = false := by cases b10 with | false => rfl | true => have := (h.d10 rfl).1; cases this
  subst h10
  exact { h with d7 := fun _ => rfl, d8 := by simp, bel := fun _ => (h.bel rfl).alloc (h.bel rfl).size _, own := fun _ => (h.own rfl).bel (bel_alloc _ _), box := fun _ _ => ⟨_, rfl, Blk.new _ _ _, (h.bel rfl).size⟩, row := by simp, fin := by simp }
theorem WgtJ.op8 (h : WgtJ X g6 g7 B7 vw lw ws wA wl wc i wb wo y W b0 true b2 b3 b4 b5 b6 true false b9 b10 u76 u77 u78 u79 u80 u81 u82 u83 u84 u85) (hl : lw < 1000000) (hy : I64 y) (hws : ∀ x ∈ ws, I64 x) (hB : B7 ≤ X.heap.size) (ty : TypeId) : ∃ g v' w', u83 = .slice (some ⟨g, 0, none⟩) 1 1 ∧ (Builtin.append_ #[23, 23] ty #[vw, .slice (some ⟨g, 0, none⟩) 1 1]).run Try.prog W = .ok v' w' ∧ WgtJ X g6 g7 B7 vw lw ws wA wl wc i wb wo y w' b0 true b2 b3 b4 b5 b6 true true b9 b10 u76 u77 u78 u79 u80 u81 u82 u83 v' u85 := by
  have h10 : b10 = false := by cases b10 with | false => rfl | true => have := (h.d10 rfl).1; cases this
  subst h10
  obtain ⟨g, rfl, hb, hg⟩ := h.box rfl rfl
  have hs : SlIs intR W (some ⟨g, 0, none⟩) 1 1 [y] := ⟨rfl, Nat.le_refl _, ⟨by simp [maxLen], by omega⟩, fun _ => ⟨_, rfl, hb.lt, fun j x hx => by
    match j, hx with
    | 0, hx =>
      simp at hx; subst hx
      refine ⟨[.int .i64 y], ⟨rfl, hy⟩, fun j u hu => ?_⟩
      match j, hu with
      | 0, hu => simp at hu; subst hu; rw [add_none]; exact hb.cell 0
      | j + 1, hu => simp at hu
    | j + 1, hx => simp at hx⟩⟩
  have hbe := h.bel rfl
  obtain ⟨v', w', hrun, h1, h2, h3⟩ := appS (h.own rfl) hs (by omega) (Nat.le_trans hB hbe.size) ty
  have hlt : ∀ k, vw.ownBlock = some k → k < W.heap.size := fun k hk => ((h.own rfl).2.lt k hk).2
  obtain ⟨A, c, e, _⟩ := h1.sl (by omega) (fun x hx => by
    rcases List.mem_append.1 hx with hx | hx
    · exact hws x hx
    · simp at hx; subst hx; exact hy)
  refine ⟨g, v', w', rfl, hrun, { h with d8 := fun _ => ⟨rfl, rfl⟩, d10 := by simp, bel := by simp, own := by simp, box := by simp, fin := by simp, row := fun _ _ => ⟨A, c, e, h1, ?_, fun k hk => ?_⟩ }⟩
  · exact ⟨h2.os.trans hbe.os, h2.tape.trans hbe.tape, h2.output.trans hbe.output, Nat.le_trans hbe.size h2.size, fun k hk hne => (h2.block k (Nat.lt_of_lt_of_le hk hbe.size) hne).trans (hbe.block k hk)⟩
  · rcases h3 k hk with h4 | h4
    · exact .inl h4
    · exact .inr (Nat.le_trans hbe.size h4)
theorem WgtJ.op10 (h : WgtJ X g6 g7 B7 vw lw ws wA wl wc i wb wo y W b0 b1 b2 b3 b4 b5 b6 b7 true true false u76 u77 u78 u79 u80 u81 u82 u83 u84 u85) : ∃ A c, u84 = .slice A (lw + 1) c ∧ WgtJ X g6 g7 B7 vw lw ws wA wl wc i wb wo y (W.setCell ⟨g7, 5, none⟩ u84) b0 b1 b2 b3 b4 b5 b6 b7 true true true u76 u77 u78 u79 u80 u81 u82 u83 u84 u85 := by
  obtain ⟨A, c, e, h1, h2, h3⟩ := h.row rfl rfl
  exact ⟨A, c, e, { h with d10 := fun _ => ⟨rfl, rfl⟩, bel := by simp, own := by simp, box := by simp, row := by simp, fin := fun _ => ⟨W, A, c, e, h1, h2, h3, rfl⟩ }⟩
end
end Go.Proofs.Ytfopcpmckplemaa

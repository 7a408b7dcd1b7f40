/- Contracts: reduct.reduced, Reduct. -/
import Derived.Test.YtbfbkpoakmnlpaaRd9
import Derived.Test.YtbfbkpoakmnlpaaRngb
namespace Go.Proofs.Ytbfbkpoakmnlpaa
open Go.RowKit Go.Shelf
attribute [local go_sem] Oper.semAt_some

/-- The out row while the rules come. -/
def OutRow (W : World) (base : Nat) (v : Value) (cs : List Value) (M : List Nat) (pre : List GRule) : Prop :=
  W.ownsRow base 54 6 v pre.length cs ∧ ∀ i x, pre[i]? = some x → ∃ (hA : Option Addr) (hl hc : Nat) (bA : Option Addr) (bl bc : Nat) (wA : Option Addr) (wl wc : Nat),
    (cs.drop (i * 6)).take 6 = [.bool x.choice, .slice hA hl hc, .bool x.sum, .int .i64 x.bound, .slice bA bl bc, .slice wA wl wc] ∧ RuleIn W x hA hl hc bA bl bc wA wl wc ∧ Off M hA hl ∧ Off M bA bl ∧ Off M wA wl
def MOf (B0 : Nat) (v : Value) : List Nat := B0 :: v.ownBlock.toList
def RI (w : World) (B0 base : Nat) (M : List Nat) (pre : List GRule) (W : World) : Prop :=
  ∃ v cs, M = MOf B0 v ∧ Blk W B0 24 #[v] ∧ OutRow W base v cs M pre ∧ Below w.heap.size w W ∧ base ≤ W.heap.size
theorem MOf_mem {B0 k : Nat} {v : Value} (h : k ∈ MOf B0 v) : k = B0 ∨ v.ownBlock = some k := by
  unfold MOf at h
  rcases List.mem_cons.1 h with h | h
  · exact .inl h
  · right; cases hv : v.ownBlock with
    | none => rw [hv] at h; simp at h
    | some q => rw [hv] at h; simp at h; rw [h]
theorem blk_ne {W : World} {g k : Nat} {t : TypeId} {cs : Array Value} (h : Blk W g t cs) (hn : ∀ o, W.heap[k]? = some o → o.isCells = false) : k ≠ g := fun e => by
  subst e; have := hn _ h; cases this
theorem own_ne {W : World} {base e size l : Nat} {v : Value} {cs : List Value} (h : W.ownsRow base e size v l cs) {k : Nat} (hn : ∀ o, W.heap[k]? = some o → o.isCells = false) : v.ownBlock ≠ some k := fun hv => by
  rcases h.2 with ⟨rfl, _⟩ | ⟨g, cap, cur, rfl, _, hg, _⟩
  · simp [Value.ownBlock] at hv
  · have : g = k := by simpa [Value.ownBlock] using hv
    subst this; have := hn _ hg; cases this
theorem OutRow.keep {base : Nat} {v : Value} {cs : List Value} {M : List Nat} {pre : List GRule} {A B : World} {k : Nat} (h : OutRow A base v cs M pre) (hn : ∀ o, A.heap[k]? = some o → o.isCells = false) (hk : Kept [k] A B) : OutRow B base v cs M pre := by
  obtain ⟨ho, hr⟩ := h
  refine ⟨ownsRow_keptS ho hk (fun q hq hm => by simp at hm; subst hm; exact own_ne ho hn hq), fun i x hx => ?_⟩
  obtain ⟨hA, hl, hc, bA, bl, bc, wA, wl, wc, h1, h2, h3, h4, h5⟩ := hr i x hx
  exact ⟨hA, hl, hc, bA, bl, bc, wA, wl, wc, h1, h2.keptM hk (h2.head.offN hn) (h2.body.offN hn) (h2.wt.offN hn), h3, h4, h5⟩
theorem RI.keep {w : World} {B0 base : Nat} {M : List Nat} {pre : List GRule} {A B : World} {k : Nat} (h : RI w B0 base M pre A) (hn : ∀ o, A.heap[k]? = some o → o.isCells = false) (hk : Kept [k] A B) (hkw : w.heap.size ≤ k) : RI w B0 base M pre B := by
  obtain ⟨v, cs, rfl, hb, ⟨ho, hr⟩, hw, hbs⟩ := h
  refine ⟨v, cs, rfl, hk.blk hb (by have := blk_ne hb hn; simp; omega), ⟨ownsRow_keptS ho hk (fun q hq hm => by simp at hm; subst hm; exact own_ne ho hn hq), fun i x hx => ?_⟩, Kept.below hw hk hw.size (fun q hq => by simp at hq; omega), Nat.le_trans hbs hk.size⟩
  obtain ⟨hA, hl, hc, bA, bl, bc, wA, wl, wc, h1, h2, h3, h4, h5⟩ := hr i x hx
  exact ⟨hA, hl, hc, bA, bl, bc, wA, wl, wc, h1, h2.keptM hk (h2.head.offN hn) (h2.body.offN hn) (h2.wt.offN hn), h3, h4, h5⟩
theorem RI.cells {w : World} {B0 base : Nat} {M : List Nat} {pre : List GRule} {W : World} (h : RI w B0 base M pre W) : ∀ k ∈ M, ∃ o, W.heap[k]? = some o ∧ o.isCells = true := by
  obtain ⟨v, cs, rfl, hb, ⟨ho, _⟩, _⟩ := h
  intro k hk
  rcases MOf_mem hk with rfl | hv
  · exact ⟨_, hb, rfl⟩
  · rcases ho.2 with ⟨rfl, _⟩ | ⟨g, cap, cur, rfl, _, hg, _⟩
    · simp [Value.ownBlock] at hv
    · have : g = k := by simpa [Value.ownBlock] using hv
      subst this; exact ⟨_, hg, rfl⟩
theorem RI.bel {w : World} {B0 base : Nat} {M : List Nat} {pre : List GRule} {A B : World} (h : RI w B0 base M pre A) (hb : Below A.heap.size A B) : RI w B0 base M pre B := by
  have hw := h
  obtain ⟨v, cs, rfl, hb1, ho, hbw, _⟩ := hw
  exact h.keep (k := A.heap.size) (fun o e => by simp at e) (Kept.of_below hb _) hbw.size
/-- The rows read as rules. -/
theorem OutRow.sl {W : World} {base : Nat} {v : Value} {cs : List Value} {M : List Nat} {pre : List GRule} (h : OutRow W base v cs M pre) (hs : pre.length ≤ 17592186044416) : ∃ A c, v = .slice A pre.length c ∧ SlIs ruleR W A pre.length c pre :=
  SlIs.of_own (R := ruleR) h.1 rfl hs (fun i x hx => by
    obtain ⟨hA, hl, hc, bA, bl, bc, wA, wl, wc, h1, h2, _⟩ := h.2 i x hx
    exact ⟨.slice hA hl hc, .slice bA bl bc, .slice wA wl wc, h1, ⟨hA, hl, hc, rfl, h2.head⟩, h2.bound, ⟨bA, bl, bc, rfl, h2.body⟩, ⟨wA, wl, wc, rfl, h2.wt⟩⟩)
/-- One more rule. -/
theorem OutRow.snoc {W V : World} {base : Nat} {v v' : Value} {cs : List Value} {M M' : List Nat} {pre : List GRule} {x : GRule} {hA : Option Addr} {hl hc : Nat} {bA : Option Addr} {bl bc : Nat} {wA : Option Addr} {wl wc : Nat}
    (h : OutRow W base v cs M pre) (hx : RuleIn W x hA hl hc bA bl bc wA wl wc) (o1 : Off M hA hl) (o2 : Off M bA bl) (o3 : Off M wA wl)
    (hV : V.ownsRow base 54 6 v' (pre.length + 1) (cs ++ [.bool x.choice, .slice hA hl hc, .bool x.sum, .int .i64 x.bound, .slice bA bl bc, .slice wA wl wc])) (hk : Kept M W V) (hm : ∀ k ∈ M', k ∈ M ∨ W.heap.size ≤ k) : OutRow V base v' (cs ++ [.bool x.choice, .slice hA hl hc, .bool x.sum, .int .i64 x.bound, .slice bA bl bc, .slice wA wl wc]) M' (pre ++ [x]) := by
  have off : ∀ {A : Option Addr} {l c : Nat} {xs : List Int}, SlIs intR W A l c xs → Off M A l → Off M' A l := fun hs ho h0 ad e hq => by
    rcases hm _ hq with h1 | h1
    · exact ho h0 ad e h1
    · have := hs.blk_lt h0 e; omega
  have hcl : cs.length = pre.length * 6 := h.1.1
  refine ⟨by simpa using hV, fun i z hz => ?_⟩
  rcases Nat.lt_trichotomy i pre.length with hi | hi | hi
  · rw [List.getElem?_append_left hi] at hz
    obtain ⟨hA, hl, hc, bA, bl, bc, wA, wl, wc, h1, h2, h3, h4, h5⟩ := h.2 i z hz
    refine ⟨hA, hl, hc, bA, bl, bc, wA, wl, wc, ?_, h2.keptM hk h3 h4 h5, off h2.head h3, off h2.body h4, off h2.wt h5⟩
    rw [List.drop_append_of_le_length (by omega), List.take_append_of_le_length (by rw [List.length_drop]; omega)]; exact h1
  · subst hi
    simp at hz; subst hz
    refine ⟨hA, hl, hc, bA, bl, bc, wA, wl, wc, ?_, hx.keptM hk o1 o2 o3, off hx.head o1, off hx.body o2, off hx.wt o3⟩
    rw [← hcl, List.drop_left]; rfl
  · rw [List.getElem?_eq_none (by simp; omega)] at hz; cases hz

end Go.Proofs.Ytbfbkpoakmnlpaa

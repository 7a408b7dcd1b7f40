/- A program by value lies off a block that holds the zero program: shown by the values. -/
import Derived.Test.YtdkjanbfheehoaaGreatSpp
import Derived.Test.YtdkjanbfheehoaaGreatGK
namespace Go.Proofs.YtdkjanbfheehoaaGreat
open Go.RowKit

def ZR : Array Value := #[.int .i64 0, .slice none 0 0, .slice none 0 0, .slice none 0 0, .slice none 0 0]
theorem zr_cell {W : World} {g : Nat} {t : TypeId} (h : Blk W g t ZR) {a : Addr} {v : Value} (ha : a.block = g) (hc : W.cell? a = some v) : v = .int .i64 0 ∨ v = .slice none 0 0 := by
  unfold Blk at h
  unfold World.cell? at hc
  rw [ha, h] at hc
  cases hs : a.spot.isSome with
  | true => simp [hs] at hc
  | false =>
    simp only [hs, Bool.false_eq_true, if_false] at hc
    have := Array.mem_of_getElem? hc
    simpa [ZR] using this
theorem off_zr {α : Type} {R : Rep α} {W : World} {g : Nat} {t : TypeId} (hg : Blk W g t ZR) {A : Option Addr} {l c : Nat} {xs : List α} (h : SlIs R W A l c xs)
    (hx : ∀ cs x, x ∈ xs → R.is W cs x → ∃ u, cs[0]? = some u ∧ u ≠ .int .i64 0 ∧ u ≠ .slice none 0 0) : Off [g] A l := fun h0 ad e hm => by
  obtain ⟨ad', e', hl, hc⟩ := h.2.2.2 h0
  rw [e] at e'
  injection e' with e'
  subst e'
  have hlt : 0 < xs.length := by rw [← h.1]; exact h0
  obtain ⟨cs, h1, h2⟩ := hc 0 xs[0] (List.getElem?_eq_getElem hlt)
  obtain ⟨u, e1, n1, n2⟩ := hx cs _ (List.getElem_mem hlt) h1
  have hm : ad.block = g := by simpa using hm
  have hb : (ad.add (0 * R.size + 0)).block = ad.block := by unfold Addr.add; split <;> rfl
  rcases zr_cell hg (hb.trans hm) (h2 0 u e1) with h | h
  · exact n1 h
  · exact n2 h
theorem ints_zr {W V : World} {g : Nat} {t : TypeId} (hg : Blk W g t ZR) (hk : Kept [g] W V) {v : Value} {xs : List Int} (h : Ints W v xs) (hx : ∀ x ∈ xs, x ≠ 0) : Ints V v xs := by
  obtain ⟨A, l, c, hv, hs⟩ := h
  injection hv with hv
  subst hv
  refine ⟨A, l, c, rfl, hs.keptM hk (off_zr hg hs fun cs x hm hr => ?_)⟩
  have hr' : cs = [.int .i64 x] ∧ I64 x := hr
  obtain ⟨rfl, -⟩ := hr'
  exact ⟨_, rfl, fun e => hx x hm (by injection e), fun e => (by cases e)⟩
theorem prog_zr {W V : World} {g : Nat} {t : TypeId} (hg : Blk W g t ZR) (hk : Kept [g] W V) {p : GProg} {nA sA rA mA : Option Addr} {nl nc sl sc rl rc ml mc : Nat} (h : ProgIn W p nA nl nc sA sl sc rA rl rc mA ml mc)
    (hr : ∀ r ∈ p.rules, (∀ x ∈ r.head, x ≠ 0) ∧ (∀ x ∈ r.body, x ≠ 0) ∧ ∀ x ∈ r.w, x ≠ 0) (hs : p.shown = []) (hm : p.min = []) : ProgIn V p nA nl nc sA sl sc rA rl rc mA ml mc := by
  refine ⟨h.n, ?_, ?_, ?_, ?_⟩
  · refine h.names.keptR hk (off_zr hg h.names fun cs x _ hr => ?_) fun cs x _ h => h
    have hr' : cs = [.string x] ∧ x.size ≤ maxLen := hr
    obtain ⟨rfl, -⟩ := hr'
    exact ⟨_, rfl, fun e => (by cases e), fun e => (by cases e)⟩
  · exact h.shown.keptR hk (fun h0 => by rw [h.shown.1, hs] at h0; cases h0) fun cs x _ h => h
  · refine h.rules.keptR hk (off_zr hg h.rules fun cs x _ hr => ?_) fun cs x hx h => ?_
    · obtain ⟨h, b, wt, rfl, -⟩ : ∃ h b wt, cs = [.bool x.choice, h, .bool x.sum, .int .i64 x.bound, b, wt] ∧ Ints W h x.head ∧ I64 x.bound ∧ Ints W b x.body ∧ Ints W wt x.w := hr
      exact ⟨_, rfl, fun e => (by cases e), fun e => (by cases e)⟩
    · obtain ⟨a, b, c, e, h1, h2, h3, h4⟩ : ∃ h b wt, cs = [.bool x.choice, h, .bool x.sum, .int .i64 x.bound, b, wt] ∧ Ints W h x.head ∧ I64 x.bound ∧ Ints W b x.body ∧ Ints W wt x.w := h
      exact ⟨a, b, c, e, ints_zr hg hk h1 (hr x hx).1, h2, ints_zr hg hk h3 (hr x hx).2.1, ints_zr hg hk h4 (hr x hx).2.2⟩
  · exact h.min.keptR hk (fun h0 => by rw [h.min.1, hm] at h0; cases h0) fun cs x hx => by rw [hm] at hx; cases hx
/-- A valid rule's numbers are not 0. -/
theorem rule_nz {r : GRule} {n : Int} (h : RuleIs r n) : (∀ x ∈ r.head, x ≠ 0) ∧ (∀ x ∈ r.body, x ≠ 0) ∧ ∀ x ∈ r.w, x ≠ 0 :=
  ⟨fun x hx => by have := inc_mem h.head x hx; omega, fun x hx => (litB_iff.1 (ord_lit h.body x hx)).1, fun x hx => by
    cases hs : r.sum with
    | false => rw [(h.plain hs).1] at hx; cases hx
    | true => have := (wtGo_spec r.w 0 (by omega) (by omega) (h.wt hs)).1 x hx; omega⟩
end Go.Proofs.YtdkjanbfheehoaaGreat

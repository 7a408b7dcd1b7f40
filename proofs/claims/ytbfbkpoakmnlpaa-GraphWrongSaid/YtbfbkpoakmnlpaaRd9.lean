/- slices.Clone with what is new; the reduct's rules as an iterator hands them on. -/
import Derived.Test.YtbfbkpoakmnlpaaRd8
import Derived.Test.YtbfbkpoakmnlpaaRng
namespace Go.Proofs.Ytbfbkpoakmnlpaa
open Go.RowKit

set_option maxHeartbeats 1000000 in
theorem clone2_any (lA : Option Addr) (ll lc : Nat) (xs : List Int) (w : World) (h : SlIs intR w lA ll lc xs) :
    Calls Try.prog 62 #[.slice lA ll lc] w fun e w' => ∃ A l c, e = .returned (.slice A l c) ∧ SlIs intR w' A l c xs ∧ Frs w.heap.size A l ∧ Below w.heap.size w w' := by
  have hl := h.cap
  have hm := h.max
  have hs := h.small
  have hnil := fun W => Lib.run_eql_slice_nil (P := Try.prog) W 23 3 lA ll lc 0 0 Try.underlying23
  have hx : ∀ x ∈ xs, I64 x := fun x hx => by
    obtain ⟨k, hk⟩ := List.getElem?_of_mem hx
    exact (h.int hk).choose_spec.choose_spec.2.2.2
  cases hA : lA with
  | none =>
    subst hA
    have h0 : ll = 0 := by
      rcases Nat.eq_zero_or_pos ll with h0 | h0
      · exact h0
      · obtain ⟨ad, he, _⟩ := h.2.2.2 h0; cases he
    subst h0
    have hxs : xs = [] := List.eq_nil_of_length_eq_zero h.len.symm
    subst hxs
    have H := Lib.hid h; clear h
    go_enter Try.func62, Try.ntmps62
    go_wp2_with fail
    refine bodyPost_ret (results_tmp rfl _ _ _) rfl ?_
    exact ⟨none, 0, 0, rfl, SlIs.nil _ _, Frs.nil _ _, Below.refl _ _⟩
  | some ad =>
    subst hA
    have O0 : OwnI (w.alloc (.cells #[] 3)) w.heap.size (.slice (some ⟨w.heap.size, 0, none⟩) 0 0) 0 [] := ⟨rfl, World.ownsRow_made _ #[] 0 (Nat.le_refl _) (by simp [maxLen]) (by simp)⟩
    obtain ⟨v1, w3, hrun1, own1, hg1, hat1⟩ := appS O0 (h.ext (bel_alloc _ _)) (by omega) (by simp) 23
    have hb3 : Below w.heap.size w w3 := bel_grown (bel_alloc _ _) hg1 (by simp) (fun k hk => by simp [Value.ownBlock] at hk; omega)
    obtain ⟨A', c', hv, hsl⟩ := own1.sl (by omega) (by simpa using hx)
    subst hv
    have hfr := own1.fresh
    have HFR := Lib.hid hfr; clear hfr
    have H := Lib.hid h; clear h
    have O0 := Lib.hid O0; clear O0
    have OWN1 := Lib.hid own1; clear own1
    have HG1 := Lib.hid hg1; clear hg1
    have HAT1 := Lib.hid hat1; clear hat1
    have HB3 := Lib.hid hb3; clear hb3
    have HSL := Lib.hid hsl; clear hsl
    have HX := Lib.hid hx; clear hx
    have HRUN1 := Lib.hid hrun1; clear hrun1
    go_enter Try.func62, Try.ntmps62
    go_wp2_with (at_builtin; refine wpList_append_run rfl _ _ _ rfl _ _ rfl rfl _ _ HRUN1.out ?_)
    refine bodyPost_ret (results_tmp rfl _ _ _) rfl ?_
    exact ⟨A', _, c', rfl, by have h1 := HSL.out; simpa using h1, by simpa using HFR.out, HB3.out⟩

/-- The array of a slice is not in M. -/
def Off (M : List Nat) (A : Option Addr) (l : Nat) : Prop := 0 < l → ∀ ad, A = some ad → ad.block ∉ M
theorem Off.nil (M : List Nat) (A : Option Addr) : Off M A 0 := fun h => absurd h (by simp)
theorem Off.sub {M T : List Nat} {A : Option Addr} {l : Nat} (h : Off M A l) (hs : ∀ k ∈ T, k ∈ M) : Off T A l := fun h0 ad e hm => h h0 ad e (hs _ hm)
theorem Frs.off {n : Nat} {M : List Nat} {A : Option Addr} {l : Nat} (h : Frs n A l) (hM : ∀ k ∈ M, k < n) : Off M A l := fun h0 ad e hm => by have := h h0 ad e; have := hM _ hm; omega
theorem SlIs.keptM {M : List Nat} {w B : World} {A : Option Addr} {l c : Nat} {xs : List Int} (h : SlIs intR w A l c xs) (hk : Kept M w B) (ho : Off M A l) : SlIs intR B A l c xs := by
  refine ⟨h.1, h.2.1, h.2.2.1, fun hn => ?_⟩
  obtain ⟨ad, e, hl, hc⟩ := h.2.2.2 hn
  refine ⟨ad, e, Nat.lt_of_lt_of_le hl hk.size, fun i x hx => ?_⟩
  obtain ⟨cs, hr, hcell⟩ := hc i x hx
  refine ⟨cs, hr, fun j u hu => hk.cell (hcell j u hu) ?_⟩
  have : (ad.add (i * intR.size + j)).block = ad.block := by unfold Addr.add; split <;> rfl
  rw [this]; exact ho hn ad e
theorem SlIs.blk_lt {α : Type} {R : Rep α} {w : World} {A : Option Addr} {l c : Nat} {xs : List α} (h : SlIs R w A l c xs) (h0 : 0 < l) {ad : Addr} (e : A = some ad) : ad.block < w.heap.size := by
  obtain ⟨ad', e', hl, _⟩ := h.2.2.2 h0
  rw [e] at e'; cases e'; exact hl
/-- A rule by value whose slices lie off M. -/
def GoodR (M : List Nat) (x : GRule) (args : Array Value) (W : World) : Prop :=
  ∃ (hA : Option Addr) (hl hc : Nat) (bA : Option Addr) (bl bc : Nat) (wA : Option Addr) (wl wc : Nat), args = #[ruleV x (.slice hA hl hc) (.slice bA bl bc) (.slice wA wl wc)] ∧ RuleIn W x hA hl hc bA bl bc wA wl wc ∧ Off M hA hl ∧ Off M bA bl ∧ Off M wA wl
theorem GoodR.go {M M1 : List Nat} {x : GRule} {args : Array Value} {A B : World} (h : GoodR M x args A) (hs : ∀ k ∈ M1, k ∈ M) (hk : Kept M A B) : GoodR M1 x args B := by
  obtain ⟨hA, hl, hc, bA, bl, bc, wA, wl, wc, e, hr, h1, h2, h3⟩ := h
  exact ⟨hA, hl, hc, bA, bl, bc, wA, wl, wc, e, ⟨hr.head.keptM hk h1, hr.bound, hr.body.keptM hk h2, hr.wt.keptM hk h3⟩, h1.sub hs, h2.sub hs, h3.sub hs⟩
theorem GoodR.size {M : List Nat} {x : GRule} {args : Array Value} {W : World} (h : GoodR M x args W) : args.size = 1 := by
  obtain ⟨_, _, _, _, _, _, _, _, _, rfl, _⟩ := h; rfl
/-- The rules of the reduct that come from one rule. -/
def redOne (m : List Int) (r : GRule) : List GRule :=
  if dropB r m then [] else if r.choice then (r.head.filter fun a => decide (a ∈ m)).map fun a => { posRule r m with head := [a] } else [{ posRule r m with head := r.head }]
def reductL (rs : List GRule) (m : List Int) : List GRule := rs.flatMap (redOne m)
theorem reductL_take {rs : List GRule} {m : List Int} {k : Nat} {r : GRule} (h : rs[k]? = some r) : reductL (rs.take (k + 1)) m = reductL (rs.take k) m ++ redOne m r := by
  rw [take_snoc' h]; simp [reductL]
end Go.Proofs.Ytbfbkpoakmnlpaa

/- GraphHeads and GraphTight, plain: what tight and head-cycle-free mean for paths. -/
import Derived.Test.YtbfbkpoakmnlpaaGreatGWr
import Derived.Test.YtbfbkpoakmnlpaaGreatDsn
import Derived.Test.YtbfbkpoakmnlpaaGreatGL
namespace Go.Proofs.YtbfbkpoakmnlpaaGreat
open Go.RowKit
section
variable {g : List (List Int)}
theorem rch_plus {a b : Int} (h : a ≠ b) : Rch g a b ↔ Plus g a b := by
 constructor
 ·intro r
  cases r with
  | refl => exact absurd rfl h
  | step h k => exact ⟨_,h,k⟩
 ·rintro ⟨c,h1,h2⟩; exact .step h1 h2
theorem at_same {cs : List (List Int)} (h : CompOk g cs) (h1 : 1 ≤ g.length) {a b : Int} (a1 : 1 ≤ a) (a2 : a < (g.length : Int)) (b1 : 1 ≤ b) (b2 : b < (g.length : Int)) :
  nthZ (numL (g.length - 1) cs) a = nthZ (numL (g.length - 1) cs) b ↔ Rch g a b ∧ Rch g b a := by
 obtain ⟨i,c,hi,hc⟩ := h.get a1 a2
 obtain ⟨j,d,hj,hd⟩ := h.get b1 b2
 rw [numL_at h h1 hi hc,numL_at h h1 hj hd,← h.same hi hj hc hd]
 omega
end
/-! ### heads -/
def bitN (T : List Nat) (a b : Int) : Bool := (nthN T a.toNat).testBit b.toNat
def pairB (T : List Nat) (ch : Bool) (a b : Int) : Bool := ch || (!bitN T a b || !bitN T b a)
def wantR (T : List Nat) (r : GRule) : Bool := (List.range r.head.length).all fun i => (List.range i).all fun j => pairB T r.choice (r.head.getD i 0) (r.head.getD j 0)
theorem bit_ok {p : GProg} (hi : ProgIs p) {a b : Int} (ha : 0 ≤ a) (hb : 0 ≤ b) : bitN (rchL p) a b = true ↔ Plus (ofL p) a b := by
 have := rchL_ok (of_ok hi (namedB_n hi.named).1 (namedB_n hi.named).2) (of_len p) a.toNat b.toNat
 rw [Int.toNat_of_nonneg ha,Int.toNat_of_nonneg hb] at this
 exact this
theorem hf_want {p : GProg} (hi : ProgIs p) {r : GRule} (hr : r ∈ p.rules) : (!hfB (numL p.n.toNat (compT (ofL p))) r) = wantR (rchL p) r := by
 have h0 : 0 ≤ p.n := (namedB_n hi.named).1
 have hl := of_len p
 have hg := of_ok hi h0 (namedB_n hi.named).2
 have h1 : 1 ≤ (ofL p).length := by omega
 have hc := comp_ok hg h1
 have e : p.n.toNat = (ofL p).length - 1 := by omega
 have hrr := inc_mem (hi.rules r hr).head
 have hpw := inc_pair (hi.rules r hr).head
 rw [Bool.eq_iff_iff]
 unfold hfB wantR pairB
 rw [e]
 cases hch : r.choice with
 | true => simp
 | false =>
  simp only [Bool.not_false,Bool.true_and,Bool.not_eq_true',decide_eq_false_iff_not,Bool.false_or,List.all_eq_true,List.mem_range]
  have hd := disN_lt (r.head.map fun a => nthZ (numL ((ofL p).length - 1) (compT (ofL p))) a)
  rw [List.length_map] at hd
  rw [hd,Decidable.not_not,List.Nodup,List.pairwise_map,List.pairwise_iff_getElem]
  rw [List.pairwise_iff_getElem] at hpw
  have key : ∀ (i j : Nat) (hi' : i < r.head.length) (hj : j < r.head.length),j < i → (nthZ (numL ((ofL p).length - 1) (compT (ofL p))) r.head[j] ≠ nthZ (numL ((ofL p).length - 1) (compT (ofL p))) r.head[i] ↔ (!bitN (rchL p) (r.head.getD i 0) (r.head.getD j 0) || !bitN (rchL p) (r.head.getD j 0) (r.head.getD i 0)) = true) := by
   intro i j hi' hj hji
   have hri := hrr _ (List.getElem_mem hi')
   have hrj := hrr _ (List.getElem_mem hj)
   have hlt := hpw j i hj hi' hji
   rw [List.getD_eq_getElem?_getD,List.getD_eq_getElem?_getD,List.getElem?_eq_getElem hi',List.getElem?_eq_getElem hj]
   simp only [Option.getD_some]
   rw [Ne,at_same hc h1 hrj.1 (by omega) hri.1 (by omega),rch_plus (by omega),rch_plus (by omega),← bit_ok hi (by omega) (by omega),← bit_ok hi (by omega) (by omega)]
   cases bitN (rchL p) r.head[i] r.head[j] <;> cases bitN (rchL p) r.head[j] r.head[i] <;> simp
  constructor
  ·intro h i hi' j hji
   exact (key i j hi' (by omega) hji).1 (h j i (by omega) hi' hji)
  ·intro h j i hj hi' hji
   exact (key i j hi' hj hji).2 (h i hi' j hji)
theorem free_want {p : GProg} (hi : ProgIs p) : freeB p = p.rules.all (wantR (rchL p)) := by
 unfold freeB
 rw [List.not_any_eq_all_not,Bool.eq_iff_iff,List.all_eq_true,List.all_eq_true]
 constructor
 ·intro h r hr; rw [← hf_want hi hr]; exact h r hr
 ·intro h r hr; rw [hf_want hi hr]; exact h r hr
end Go.Proofs.YtbfbkpoakmnlpaaGreat

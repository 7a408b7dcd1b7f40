/- GraphHeads and GraphTight, plain: what tight and head-cycle-free mean for paths. -/
import Derived.Test.YtbfbkpoakmnlpaaRea
import Derived.Test.YtbfbkpoakmnlpaaGL
namespace Go.Proofs.Ytbfbkpoakmnlpaa
open Go.RowKit

theorem disN_rev : ∀ rs : List Int, disN rs.reverse ≤ rs.length ∧ (disN rs.reverse = rs.length ↔ rs.Nodup)
  | [] => ⟨by simp [disN, disL], by simp [disN, disL]⟩
  | a :: r => by
    obtain ⟨h1, h2⟩ := disN_rev r
    rw [List.reverse_cons, disN_snoc, List.length_cons, List.nodup_cons]
    split
    · rename_i h
      rw [List.mem_reverse] at h
      refine ⟨by omega, ?_⟩
      constructor
      · intro q; omega
      · intro q; exact absurd h q.1
    · rename_i h
      rw [List.mem_reverse] at h
      refine ⟨by omega, ?_⟩
      rw [show disN r.reverse + 1 = r.length + 1 ↔ disN r.reverse = r.length from by omega, h2]
      exact ⟨fun q => ⟨h, q⟩, fun q => q.2⟩
theorem disN_lt (ks : List Int) : disN ks < ks.length ↔ ¬ ks.Nodup := by
  obtain ⟨h1, h2⟩ := disN_rev ks.reverse
  rw [List.reverse_reverse, List.length_reverse] at h1 h2
  have h3 : ks.reverse.Nodup ↔ ks.Nodup := by unfold List.Nodup; rw [List.pairwise_reverse]; exact ⟨fun h => h.imp Ne.symm, fun h => h.imp Ne.symm⟩
  rw [h3] at h2
  rw [← h2]; omega
theorem nodup_sub_len : ∀ (l m : List Int), l.Nodup → (∀ x ∈ l, x ∈ m) → l.length ≤ m.length
  | [], _, _, _ => Nat.zero_le _
  | a :: l, m, h, hs => by
    rw [List.nodup_cons] at h
    have ha := hs a (List.mem_cons_self ..)
    have := nodup_sub_len l (m.erase a) h.2 (fun x hx => (List.mem_erase_of_ne (fun e => h.1 (by rw [← e]; exact hx))).2 (hs x (List.mem_cons_of_mem _ hx)))
    rw [List.length_erase_of_mem ha] at this
    have := List.length_pos_of_mem ha
    rw [List.length_cons]; omega
section
variable {g : List (List Int)}
theorem rch_plus {a b : Int} (h : a ≠ b) : Rch g a b ↔ Plus g a b := by
  constructor
  · intro r
    cases r with
    | refl => exact absurd rfl h
    | step h k => exact ⟨_, h, k⟩
  · rintro ⟨c, h1, h2⟩; exact .step h1 h2
theorem at_same {cs : List (List Int)} (h : CompOk g cs) (h1 : 1 ≤ g.length) {a b : Int} (a1 : 1 ≤ a) (a2 : a < (g.length : Int)) (b1 : 1 ≤ b) (b2 : b < (g.length : Int)) :
    nthZ (numL (g.length - 1) cs) a = nthZ (numL (g.length - 1) cs) b ↔ Rch g a b ∧ Rch g b a := by
  obtain ⟨i, c, hi, hc⟩ := h.get a1 a2
  obtain ⟨j, d, hj, hd⟩ := h.get b1 b2
  rw [numL_at h h1 hi hc, numL_at h h1 hj hd, ← h.same hi hj hc hd]
  omega
theorem heads_nodup {cs : List (List Int)} (h : CompOk g cs) : (cs.map fun c => c.headD 0).Nodup := by
  unfold List.Nodup
  rw [List.pairwise_map]
  refine (List.Pairwise.and_mem.1 h.dis).imp ?_
  rintro c d ⟨hc, hd, hh⟩ e
  exact hh _ (head_mem (h.inc c hc).1) (e ▸ head_mem (h.inc d hd).1)
theorem comps_all {cs : List (List Int)} (h : CompOk g cs) (h1 : 1 ≤ g.length) : cs.length = g.length - 1 ↔ ∀ c ∈ cs, ∀ x ∈ c, x = c.headD 0 := by
  have hN := heads_nodup h
  constructor
  · intro hl c hc x hx
    refine Classical.byContradiction fun hne => ?_
    have hnm : x ∉ cs.map fun c => c.headD 0 := by
      intro hm
      obtain ⟨d, hd, e⟩ := List.mem_map.1 hm
      obtain ⟨i, hi⟩ := List.getElem?_of_mem hc
      obtain ⟨j, hj⟩ := List.getElem?_of_mem hd
      have hxd : x ∈ d := e ▸ head_mem (h.inc d hd).1
      have := h.uniq hi hj hx hxd
      subst this
      rw [hi] at hj
      injection hj with hj; subst hj
      exact hne e.symm
    have hz : (0 : Int) ∉ x :: cs.map fun c => c.headD 0 := by
      rw [List.mem_cons]
      rintro (q | q)
      · have := h.rng c hc x hx; omega
      · obtain ⟨d, hd, e⟩ := List.mem_map.1 q
        have := h.rng d hd _ (head_mem (h.inc d hd).1); omega
    have := nodup_le g.length (0 :: x :: cs.map fun c => c.headD 0) (List.nodup_cons.2 ⟨hz, List.nodup_cons.2 ⟨hnm, hN⟩⟩) (fun k hk => by
      rcases List.mem_cons.1 hk with rfl | hk
      · omega
      · rcases List.mem_cons.1 hk with rfl | hk
        · have := h.rng c hc k hx; omega
        · obtain ⟨d, hd, e⟩ := List.mem_map.1 hk
          have := h.rng d hd _ (head_mem (h.inc d hd).1); omega)
    simp at this; omega
  · intro hs
    have h2 : cs.length + 1 ≤ g.length := by
      have hz : (0 : Int) ∉ cs.map fun c => c.headD 0 := fun q => by
        obtain ⟨d, hd, e⟩ := List.mem_map.1 q
        have := h.rng d hd _ (head_mem (h.inc d hd).1); omega
      have := nodup_le g.length (0 :: cs.map fun c => c.headD 0) (List.nodup_cons.2 ⟨hz, hN⟩) (fun k hk => by
        rcases List.mem_cons.1 hk with rfl | hk
        · omega
        · obtain ⟨d, hd, e⟩ := List.mem_map.1 hk
          have := h.rng d hd _ (head_mem (h.inc d hd).1); omega)
      simpa using this
    have h3 := nodup_sub_len ((List.range (g.length - 1)).map fun (k : Nat) => (k : Int) + 1) (cs.map fun c => c.headD 0) (by
      unfold List.Nodup
      rw [List.pairwise_map]
      exact List.nodup_range.imp (fun {a b} q e => q (by omega))) (fun x hx => by
      obtain ⟨k, hk, rfl⟩ := List.mem_map.1 hx
      have := List.mem_range.1 hk
      obtain ⟨c, hc, hm⟩ := h.all ((k : Int) + 1) (by omega) (by omega)
      exact List.mem_map.2 ⟨c, hc, (hs c hc _ hm).symm⟩)
    simp at h3; omega
end
/-- Tight: no atom reaches itself. -/
theorem tight_iff {p : GProg} (hi : ProgIs p) : tightB p = true ↔ ∀ a : Int, 1 ≤ a → a ≤ p.n → ¬ Plus (ofL p) a a := by
  have h0 : 0 ≤ p.n := (namedB_n hi.named).1
  have hl := of_len p
  have hg := of_ok hi h0 (namedB_n hi.named).2
  have h1 : 1 ≤ (ofL p).length := by omega
  have hc := comp_ok hg h1
  unfold tightB
  rw [Bool.and_eq_true, decide_eq_true_eq, List.all_eq_true]
  have e1 : ((compT (ofL p)).length : Int) = p.n ↔ (compT (ofL p)).length = (ofL p).length - 1 := by omega
  rw [e1, comps_all hc h1]
  constructor
  · rintro ⟨h2, h3⟩ a a1 a2 ⟨c, k1, k2⟩
    have hcr := hg.ent _ _ k1
    by_cases e : c = a
    · subst e
      have := h2 c.toNat (List.mem_range.2 (by omega))
      rw [Int.toNat_of_nonneg (by omega)] at this
      simp [k1] at this
    · obtain ⟨i, d, hd, hm⟩ := hc.get a1 (by omega)
      obtain ⟨j, d', hd', hm'⟩ := hc.get hcr.1 hcr.2
      have := (hc.same hd hd' hm hm').2 ⟨.step k1 (.refl _), k2⟩
      subst this
      rw [hd] at hd'
      injection hd' with hd'; subst hd'
      have hdm := List.mem_of_getElem? hd
      exact e ((h3 d hdm c hm').trans (h3 d hdm a hm).symm)
  · intro h
    refine ⟨fun a ha => ?_, fun c hcm x hx => ?_⟩
    · have := List.mem_range.1 ha
      simp only [Bool.not_eq_true', decide_eq_false_iff_not]
      intro hm
      have := hg.ent _ _ hm
      exact h a this.1 (by omega) ⟨_, hm, .refl _⟩
    · refine Classical.byContradiction fun hne => ?_
      have hh := head_mem (hc.inc c hcm).1
      have hr := hc.rng c hcm x hx
      exact h x hr.1 (by omega) (((rch_plus hne).1 (hc.scc c hcm _ hx _ hh)).trans ((rch_plus (Ne.symm hne)).1 (hc.scc c hcm _ hh _ hx)))
/-! ### heads -/
def bitN (T : List Nat) (a b : Int) : Bool := (nthN T a.toNat).testBit b.toNat
def pairB (T : List Nat) (ch : Bool) (a b : Int) : Bool := ch || (!bitN T a b || !bitN T b a)
def wantR (T : List Nat) (r : GRule) : Bool := (List.range r.head.length).all fun i => (List.range i).all fun j => pairB T r.choice (r.head.getD i 0) (r.head.getD j 0)
def chR (r : GRule) : GRule := { r with choice := r.choice || decide (1 < r.head.length) }
def chP (p : GProg) : GProg := { p with rules := p.rules.map chR }
theorem bit_ok {p : GProg} (hi : ProgIs p) {a b : Int} (ha : 0 ≤ a) (hb : 0 ≤ b) : bitN (rchL p) a b = true ↔ Plus (ofL p) a b := by
  have := rchL_ok (of_ok hi (namedB_n hi.named).1 (namedB_n hi.named).2) (of_len p) a.toNat b.toNat
  rw [Int.toNat_of_nonneg ha, Int.toNat_of_nonneg hb] at this
  exact this
theorem hf_want {p : GProg} (hi : ProgIs p) {r : GRule} (hr : r ∈ p.rules) : (!hfB (numL p.n.toNat (compT (ofL p))) r) = wantR (rchL p) r := by
  have h0 : 0 ≤ p.n := (namedB_n hi.named).1
  have hl := of_len p
  have hg := of_ok hi h0 (namedB_n hi.named).2
  have h1 : 1 ≤ (ofL p).length := by omega
  have hc := comp_ok hg h1
  have e : p.n.toNat = (ofL p).length - 1 := by omega
  have hrr := inc_mem (hi.rules r hr).head
  have hpw := inc_pair (hi.rules r hr).head
  rw [Bool.eq_iff_iff]
  unfold hfB wantR pairB
  rw [e]
  cases hch : r.choice with
  | true => simp
  | false =>
    simp only [Bool.not_false, Bool.true_and, Bool.not_eq_true', decide_eq_false_iff_not, Bool.false_or, List.all_eq_true, List.mem_range]
    have hd := disN_lt (r.head.map fun a => nthZ (numL ((ofL p).length - 1) (compT (ofL p))) a)
    rw [List.length_map] at hd
    rw [hd, Decidable.not_not, List.Nodup, List.pairwise_map, List.pairwise_iff_getElem]
    rw [List.pairwise_iff_getElem] at hpw
    have key : ∀ (i j : Nat) (hi' : i < r.head.length) (hj : j < r.head.length), j < i → (nthZ (numL ((ofL p).length - 1) (compT (ofL p))) r.head[j] ≠ nthZ (numL ((ofL p).length - 1) (compT (ofL p))) r.head[i] ↔ (!bitN (rchL p) (r.head.getD i 0) (r.head.getD j 0) || !bitN (rchL p) (r.head.getD j 0) (r.head.getD i 0)) = true) := by
      intro i j hi' hj hji
      have hri := hrr _ (List.getElem_mem hi')
      have hrj := hrr _ (List.getElem_mem hj)
      have hlt := hpw j i hj hi' hji
      rw [List.getD_eq_getElem?_getD, List.getD_eq_getElem?_getD, List.getElem?_eq_getElem hi', List.getElem?_eq_getElem hj]
      simp only [Option.getD_some]
      rw [Ne, at_same hc h1 hrj.1 (by omega) hri.1 (by omega), rch_plus (by omega), rch_plus (by omega), ← bit_ok hi (by omega) (by omega), ← bit_ok hi (by omega) (by omega)]
      cases bitN (rchL p) r.head[i] r.head[j] <;> cases bitN (rchL p) r.head[j] r.head[i] <;> simp
    constructor
    · intro h i hi' j hji
      exact (key i j hi' (by omega) hji).1 (h j i (by omega) hi' hji)
    · intro h j i hj hi' hji
      exact (key i j hi' hj hji).2 (h i hi' j hji)
theorem free_want {p : GProg} (hi : ProgIs p) : freeB p = p.rules.all (wantR (rchL p)) := by
  unfold freeB
  rw [List.not_any_eq_all_not, Bool.eq_iff_iff, List.all_eq_true, List.all_eq_true]
  constructor
  · intro h r hr; rw [← hf_want hi hr]; exact h r hr
  · intro h r hr; rw [hf_want hi hr]; exact h r hr
theorem tight_free {p : GProg} (hi : ProgIs p) (h : tightB p = true) : freeB p = true := by
  rw [free_want hi, List.all_eq_true]
  intro r hr
  unfold wantR pairB
  simp only [List.all_eq_true, List.mem_range]
  intro i hi' j hj
  have hrr := inc_mem (hi.rules r hr).head
  have hri := hrr _ (List.getElem_mem hi')
  have hrj := hrr _ (List.getElem_mem (show j < r.head.length by omega))
  rw [List.getD_eq_getElem?_getD, List.getD_eq_getElem?_getD, List.getElem?_eq_getElem hi', List.getElem?_eq_getElem (show j < r.head.length by omega)]
  simp only [Option.getD_some]
  have k1 := bit_ok hi (a := r.head[i]) (b := r.head[j]) (by omega) (by omega)
  have k2 := bit_ok hi (a := r.head[j]) (b := r.head[i]) (by omega) (by omega)
  have k3 := (tight_iff hi).1 h r.head[i] hri.1 hri.2
  cases b1 : bitN (rchL p) r.head[i] r.head[j] with
  | false => simp
  | true =>
    cases b2 : bitN (rchL p) r.head[j] r.head[i] with
    | false => simp
    | true => exact absurd ((k1.1 b1).trans (k2.1 b2)) k3
theorem chP_is {p : GProg} (hi : ProgIs p) : ProgIs (chP p) := by
  refine ⟨hi.named, by unfold chP; simpa using hi.few, fun r hr => ?_, hi.mins, hi.min⟩
  obtain ⟨s, hs, rfl⟩ := List.mem_map.1 hr
  have h := hi.rules s hs
  have hch : (chR s).choice = true → (chR s).head ≠ [] := fun e => by
    rcases Bool.or_eq_true _ _ ▸ e with q | q
    · exact h.choice q
    · intro e2
      have : 1 < s.head.length := by simpa using q
      rw [show s.head = [] from e2] at this
      simp at this
  exact ⟨h.n0, h.n1, h.head, hch, h.body, h.plain, h.wlen, h.wt, h.b0, h.b1⟩
theorem chP_valid {p : GProg} (hi : ProgIs p) : validE (chP p) = 0 := ex_validE (chP_is hi)
theorem chP_free {p : GProg} (hi : ProgIs p) : freeB (chP p) = true := by
  rw [free_want (chP_is hi), List.all_eq_true]
  intro r hr
  obtain ⟨s, hs, rfl⟩ := List.mem_map.1 hr
  unfold wantR pairB chR
  simp only [List.all_eq_true, List.mem_range]
  intro i hi' j hj
  have : 1 < s.head.length := by omega
  simp [this]
/-- What GraphHeads answers, on plain data. -/
theorem heads_law {p : GProg} (hv : validE p = 0) : freeB p = p.rules.all (wantR (rchL p)) ∧ (tightB p = true → freeB p = true) ∧ validE (chP p) = 0 ∧ freeB (chP p) = true :=
  have hi := validE_is hv
  ⟨free_want hi, tight_free hi, chP_valid hi, chP_free hi⟩
end Go.Proofs.Ytbfbkpoakmnlpaa

/- The order of the components is the greedy one, plain: what the reference picks at each step. -/
import Derived.Test.YtbfbkpoakmnlpaaRfp
import Derived.Test.YtbfbkpoakmnlpaaGpp
namespace Go.Proofs.Ytbfbkpoakmnlpaa
open Go.RowKit

theorem kIter_pre (f : Int → Int) (W : Int → List Int) : ∀ (n : Nat) (s : KS), ∃ t, (kIter f W n s).ord = s.ord ++ t
  | 0, s => ⟨[], by rw [kIter]; simp⟩
  | n + 1, s => by
    obtain ⟨t, ht⟩ := kIter_pre f W n (kStep f W s)
    rw [kIter, ht]
    cases hr : s.rd with
    | nil =>
      have e : kStep f W s = s := by unfold kStep; rw [hr]
      rw [e]; exact ⟨t, rfl⟩
    | cons i r =>
      have e : (kStep f W s).ord = s.ord ++ [i] := by unfold kStep; rw [hr]
      rw [e, List.append_assoc]; exact ⟨_, rfl⟩
theorem need_none {E : List (Int × Int)} {ord : List Int} {k : Int} (h : ∀ b, (k, b) ∈ E → b ∈ ord) : needN E ord k = 0 := by
  unfold needN
  rw [List.length_eq_zero_iff, List.filter_eq_nil_iff]
  rintro ⟨a, b⟩ he hq
  simp only [Bool.and_eq_true, decide_eq_true_eq] at hq
  obtain ⟨rfl, h2⟩ := hq
  exact h2 (h b he)
theorem kIter_min {E : List (Int × Int)} {m : Nat} {f : Int → Int} (hE : EOk E m f) : ∀ (n : Nat) {s : KS}, KInv E m f s → ∀ (i : Nat) (x : Int), s.ord.length ≤ i → (kIter f (waitL E) n s).ord[i]? = some x →
    ∀ y, 0 ≤ y → y < (m : Int) → y ∉ (kIter f (waitL E) n s).ord.take i → (∀ b, (y, b) ∈ E → b ∈ (kIter f (waitL E) n s).ord.take i) → f x ≤ f y
  | 0, s, h, i, x, hl, hx, y, y0, y1, hn, hb => by
    rw [kIter, List.getElem?_eq_none hl] at hx; cases hx
  | n + 1, s, h, i, x, hl, hx, y, y0, y1, hn, hb => by
    rw [kIter] at hx hn hb
    cases hr : s.rd with
    | nil =>
      have e : kStep f (waitL E) s = s := by unfold kStep; rw [hr]
      rw [e] at hx hn hb
      exact kIter_min hE n h i x hl hx y y0 y1 hn hb
    | cons z r =>
      have h1 := kStep_ok hE h hr
      have eo : (kStep f (waitL E) s).ord = s.ord ++ [z] := by unfold kStep; rw [hr]
      rcases Nat.lt_or_ge s.ord.length i with q | q
      · exact kIter_min hE n h1 i x (by rw [eo, List.length_append]; simp; omega) hx y y0 y1 hn hb
      · have hie : i = s.ord.length := by omega
        subst hie
        obtain ⟨t, ht⟩ := kIter_pre f (waitL E) n (kStep f (waitL E) s)
        rw [ht, eo, List.append_assoc] at hx hn hb
        rw [List.take_left] at hn hb
        have hxz : z = x := by simpa using hx
        subst hxz
        have hy : y ∈ s.rd := (h.rd y y0 y1).2 ⟨hn, by rw [h.need y y0 y1, need_none hb]; rfl⟩
        have hs := h.srt
        rw [hr] at hy hs
        rw [List.pairwise_cons] at hs
        rcases List.mem_cons.1 hy with q2 | q2
        · rw [q2]; exact Int.le_refl _
        · have := hs.1 y q2; omega
section
variable {g cs : List (List Int)}
theorem sort_min (h1 : 1 ≤ g.length) (h : CompOk g cs) (i : Nat) (c : List Int) (hc : (sortT g cs)[i]? = some c) (j : Nat) (d : List Int) (hd : (sortT g cs)[j]? = some d) (hij : i ≤ j)
    (hr : ∀ x ∈ d, ∀ y ∈ rowZ g x, y ∈ d ∨ ∃ m < i, ∃ e, (sortT g cs)[m]? = some e ∧ y ∈ e) : c.headD 0 ≤ d.headD 0 := by
  have hE := edge_ok h1 h
  have ho := kOrd_ok hE
  have hm := kIter_min hE cs.length (init_inv hE)
  have hs : sortT g cs = (kOrd (headF cs) (edgeE g (numL (g.length - 1) cs)) cs.length).map fun i => cs.getD i.toNat [] := rfl
  obtain ⟨o, hoe⟩ : ∃ o, o = kOrd (headF cs) (edgeE g (numL (g.length - 1) cs)) cs.length := ⟨_, rfl⟩
  have hm : ∀ (i : Nat) (x : Int), o[i]? = some x → ∀ y, 0 ≤ y → y < (cs.length : Int) → y ∉ o.take i → (∀ b, (y, b) ∈ edgeE g (numL (g.length - 1) cs) → b ∈ o.take i) → headF cs x ≤ headF cs y := fun i x => by
    rw [hoe]; exact hm i x (by simp [kInit])
  rw [← hoe] at ho hs
  rw [hs] at hc hd hr
  have gk : ∀ k ∈ o, cs[k.toNat]? = some (cs.getD k.toNat []) := fun k hk => by
    have := (ho.all k).1 hk
    rw [List.getD_eq_getElem?_getD, List.getElem?_eq_getElem (show k.toNat < cs.length by omega)]; rfl
  have gi : ∀ (i : Nat) c, (o.map fun i => cs.getD i.toNat [])[i]? = some c → ∃ k, o[i]? = some k ∧ cs[k.toNat]? = some c ∧ 0 ≤ k := fun i c hc => by
    rw [List.getElem?_map] at hc
    cases hk : o[i]? with
    | none => rw [hk] at hc; simp at hc
    | some k =>
      rw [hk] at hc
      have hc : cs.getD k.toNat [] = c := by simpa using hc
      have hm := List.mem_of_getElem? hk
      exact ⟨k, rfl, by rw [← hc]; exact gk k hm, ((ho.all k).1 hm).1⟩
  obtain ⟨k, hk, hck, k0⟩ := gi i c hc
  obtain ⟨l, hl, hdl, l0⟩ := gi j d hd
  have ec : headF cs k = c.headD 0 := by unfold headF; rw [List.getD_eq_getElem?_getD, hck]; rfl
  have ed : headF cs l = d.headD 0 := by unfold headF; rw [List.getD_eq_getElem?_getD, hdl]; rfl
  rw [← ec, ← ed]
  have hlm := List.mem_of_getElem? hl
  have hl1 := (ho.all l).1 hlm
  refine hm i k hk l hl1.1 hl1.2 (fun hin => ?_) (fun b hb => ?_)
  · obtain ⟨q, hq⟩ := List.getElem?_of_mem hin
    rw [List.getElem?_take] at hq
    split at hq
    · rename_i hqi
      obtain ⟨a1, b1⟩ := List.getElem?_eq_some_iff.1 hq
      obtain ⟨a2, b2⟩ := List.getElem?_eq_some_iff.1 hl
      have := (List.pairwise_iff_getElem.1 ho.nod) q j a1 a2 (by omega)
      exact this (b1.trans b2.symm)
    · cases hq
  · obtain ⟨x, y, x1, x2, hy, hne, he⟩ := (edge_mem _).1 hb
    obtain ⟨e1, e2⟩ := Prod.mk.inj he
    obtain ⟨q, cq, hcq, hxq⟩ := h.get x1 x2
    have ex := numL_at h h1 hcq hxq
    have hql : q = l.toNat := by omega
    subst hql
    rw [hdl] at hcq
    cases hcq
    rcases hr x hxq y hy with q2 | ⟨m, hmi, e, he2, hye⟩
    · have ey := numL_at h h1 hdl q2
      exact absurd (ex.trans ey.symm) hne
    · obtain ⟨z, hz, hez, z0⟩ := gi m e he2
      have ey := numL_at h h1 hez hye
      have : b = z := by omega
      subst this
      exact List.mem_of_getElem? (by rw [List.getElem?_take, if_pos hmi]; exact hz)
end
/-! ### what the reference picks -/
def doneL (p : GProg) (i : Nat) : List Int := ((compsL p).take i).flatten
def readyB (p : GProg) (D : List Int) (x : Nat) : Bool := decide (((x : Int) + 1) ∉ D) && (List.range p.n.toNat).all fun y => !(decide (((y : Int) + 1) ∉ D) && ptB p x y && !tgB p x y)
def tgL (p : GProg) (x k : Nat) : List Int := ((List.range k).filter (tgB p x)).map fun (y : Nat) => (y : Int) + 1
theorem comp_at {p : GProg} (hi : ProgIs p) {i : Nat} {c : List Int} (hc : (compsL p)[i]? = some c) {x : Int} (hx : x ∈ c) {j : Nat} : x ∈ doneL p j ↔ i < j := by
  have hp := (comps_part hi).ok
  unfold doneL
  rw [List.mem_flatten]
  constructor
  · rintro ⟨d, hd, hxd⟩
    obtain ⟨q, hq⟩ := List.getElem?_of_mem hd
    rw [List.getElem?_take] at hq
    split at hq
    · rename_i hqj
      have := hp.uniq hc hq hx hxd
      omega
    · cases hq
  · intro h
    exact ⟨c, List.mem_of_getElem? (by rw [List.getElem?_take, if_pos h]; exact hc), hx⟩
theorem head_le {c : List Int} (h : c.Pairwise (· < ·)) {x : Int} (hx : x ∈ c) : c.headD 0 ≤ x := by
  cases c with
  | nil => cases hx
  | cons a t =>
    rw [List.pairwise_cons] at h
    rcases List.mem_cons.1 hx with q | q
    · subst q; exact Int.le_refl _
    · have := h.1 x q
      show a ≤ x
      omega
structure PickL (p : GProg) (i : Nat) (c : List Int) (x : Nat) : Prop where
  lt : x < p.n.toNat
  head : c.headD 0 = (x : Int) + 1
  ready : readyB p (doneL p i) x = true
  first : ∀ y < x, readyB p (doneL p i) y = false
  comp : c = tgL p x p.n.toNat
theorem pick_ok {p : GProg} (hi : ProgIs p) {i : Nat} {c : List Int} (hc : (compsL p)[i]? = some c) : ∃ x, PickL p i c x := by
  have h0 : 0 ≤ p.n := (namedB_n hi.named).1
  have hl := of_len p
  have hg := of_ok hi h0 (namedB_n hi.named).2
  have h1 : 1 ≤ (ofL p).length := by omega
  have hp := (comps_part hi).ok
  have hcm := List.mem_of_getElem? hc
  have hh := head_mem (hp.inc c hcm).1
  have hr := hp.rng c hcm _ hh
  obtain ⟨x, hx⟩ : ∃ x : Nat, c.headD 0 = (x : Int) + 1 := ⟨(c.headD 0 - 1).toNat, by omega⟩
  rw [hx] at hh hr
  have hxN : x < p.n.toNat := by omega
  have hsame : ∀ (a b : Nat), a < p.n.toNat → b < p.n.toNat → ∀ {j : Nat} {d : List Int}, (compsL p)[j]? = some d → ((a : Int) + 1) ∈ d → (((b : Int) + 1) ∈ d ↔ tgB p a b = true) := fun a b ha hb j d hd had => by
    obtain ⟨q, dq, hdq, hbq⟩ := hp.get (x := (b : Int) + 1) (by omega) (by omega)
    have hs := hp.same hd hdq had hbq
    rw [tg_iff hi ha hb, ← hs]
    constructor
    · intro hbd; exact hp.uniq hd hdq hbd hbq
    · rintro rfl
      rw [hd] at hdq; cases hdq; exact hbq
  refine ⟨x, hxN, hx, ?_, fun y hy => ?_, ?_⟩
  · unfold readyB
    rw [Bool.and_eq_true, decide_eq_true_eq, List.all_eq_true]
    refine ⟨fun hq => by have := (comp_at hi hc hh).1 hq; omega, fun y hy => ?_⟩
    have hy := List.mem_range.1 hy
    cases h2 : ptB p x y with
    | false => simp
    | true =>
      by_cases h3 : ((y : Int) + 1) ∈ doneL p i
      · simp [h3]
      · have hpl := (pt_plus hi hxN hy).1 h2
        obtain ⟨z, q1, q2⟩ := hpl
        obtain ⟨j, hj, d, hd, hyd⟩ := hp.path (Rch.step q1 q2) hc hh
        have hij : ¬ j < i := fun q => h3 ((comp_at hi hd hyd).2 q)
        have : j = i := by omega
        subst this
        rw [hd] at hc; cases hc
        rw [(hsame x y hxN hy hd hh).1 hyd]; simp
  · cases hrd : readyB p (doneL p i) y with
    | false => rfl
    | true =>
      exfalso
      unfold readyB at hrd
      rw [Bool.and_eq_true, decide_eq_true_eq, List.all_eq_true] at hrd
      obtain ⟨hn, hall⟩ := hrd
      have hyN : y < p.n.toNat := by omega
      obtain ⟨j, d, hd, hyd⟩ := hp.get (x := (y : Int) + 1) (by omega) (by omega)
      have hij : i ≤ j := by
        rcases Nat.lt_or_ge j i with q | q
        · exact absurd ((comp_at hi hd hyd).2 q) hn
        · exact q
      have hdm := List.mem_of_getElem? hd
      have := sort_min h1 (comp_ok hg h1) i c hc j d hd hij (fun a ha b hb => by
        have hbr := hg.ent _ _ hb
        have har := hp.rng d hdm a ha
        obtain ⟨bn, rfl⟩ : ∃ bn : Nat, b = (bn : Int) + 1 := ⟨(b - 1).toNat, by omega⟩
        have hpl : ptB p y bn = true := (pt_plus hi hyN (by omega)).2 (by
          have r1 := hp.scc d hdm _ hyd a ha
          by_cases e : (y : Int) + 1 = a
          · rw [e]; exact ⟨_, hb, .refl _⟩
          · exact Plus.trans ((rch_plus e).1 r1) ⟨_, hb, .refl _⟩)
        by_cases hbD : ((bn : Int) + 1) ∈ doneL p i
        · right
          obtain ⟨q, e, he, hbe⟩ := hp.get (x := (bn : Int) + 1) (by omega) (by omega)
          exact ⟨q, (comp_at hi he hbe).1 hbD, e, he, hbe⟩
        · left
          have := hall bn (List.mem_range.2 (by omega))
          have htg : tgB p y bn = true := by
            cases h4 : tgB p y bn with
            | true => rfl
            | false => rw [hpl, h4, decide_eq_true hbD] at this; cases this
          exact (hsame y bn hyN (by omega) hd hyd).2 htg)
      have h2 := head_le (hp.inc d hdm).2 hyd
      rw [hx] at this
      omega
  · refine inc_ext (hp.inc c hcm).2 ?_ fun z => ?_
    · unfold tgL
      rw [List.pairwise_map]
      exact (List.Pairwise.filter _ (List.pairwise_lt_range)).imp (fun {a b} q => by omega)
    · unfold tgL
      rw [List.mem_map]
      constructor
      · intro hz
        have hzr := hp.rng c hcm z hz
        refine ⟨(z - 1).toNat, List.mem_filter.2 ⟨List.mem_range.2 (by omega), ?_⟩, by omega⟩
        refine (hsame x (z - 1).toNat hxN (by omega) hc hh).1 ?_
        rw [show (((z - 1).toNat : Nat) : Int) + 1 = z by omega]; exact hz
      · rintro ⟨y, hy, rfl⟩
        obtain ⟨y1, y2⟩ := List.mem_filter.1 hy
        have := List.mem_range.1 y1
        exact (hsame x y hxN (by omega) hc hh).2 y2
theorem done_len {p : GProg} (hi : ProgIs p) {i : Nat} (h : i ≤ (compsL p).length) : (doneL p i).length = p.n.toNat ↔ i = (compsL p).length := by
  have h0 : 0 ≤ p.n := (namedB_n hi.named).1
  have hl := of_len p
  have hp := (comps_part hi).ok
  have hall : (compsL p).flatten.length = p.n.toNat := by
    have hnd : (compsL p).flatten.Nodup := flat_nodup hp.dis fun c hc => (hp.inc c hc).2.imp (fun {x y} q e => by omega)
    have h1 : (compsL p).flatten.length ≤ p.n.toNat := by
      have := nodup_sub_len _ ((List.range p.n.toNat).map fun (k : Nat) => (k : Int) + 1) hnd (fun x hx => by
        obtain ⟨c, hc, hxc⟩ := List.mem_flatten.1 hx
        have := hp.rng c hc x hxc
        exact List.mem_map.2 ⟨(x - 1).toNat, List.mem_range.2 (by omega), by omega⟩)
      simpa using this
    have h2 : p.n.toNat ≤ (compsL p).flatten.length := by
      have := nodup_sub_len ((List.range p.n.toNat).map fun (k : Nat) => (k : Int) + 1) (compsL p).flatten (by
        unfold List.Nodup
        rw [List.pairwise_map]
        exact List.nodup_range.imp (fun {a b} q e => q (by omega))) (fun x hx => by
        obtain ⟨k, hk, rfl⟩ := List.mem_map.1 hx
        have := List.mem_range.1 hk
        obtain ⟨c, hc, hm⟩ := hp.all ((k : Int) + 1) (by omega) (by omega)
        exact List.mem_flatten.2 ⟨c, hc, hm⟩)
      simpa using this
    omega
  have hsplit : (compsL p).flatten.length = (doneL p i).length + ((compsL p).drop i).flatten.length := by
    unfold doneL
    rw [← List.length_append, ← List.flatten_append, List.take_append_drop]
  constructor
  · intro he
    refine Classical.byContradiction fun hne => ?_
    have hlt : i < (compsL p).length := by omega
    have hd : (compsL p).drop i = (compsL p)[i] :: (compsL p).drop (i + 1) := List.drop_eq_getElem_cons hlt
    have hne2 := (hp.inc _ (List.getElem_mem hlt)).1
    have := List.length_pos_iff.2 hne2
    rw [hd, List.flatten_cons, List.length_append] at hsplit
    omega
  · intro he
    subst he
    unfold doneL
    rw [List.take_length]; exact hall
theorem done_le {p : GProg} (hi : ProgIs p) (i : Nat) : (doneL p i).length ≤ p.n.toNat := by
  have h0 : 0 ≤ p.n := (namedB_n hi.named).1
  have hl := of_len p
  have hp := (comps_part hi).ok
  have hnd : (doneL p i).Nodup := flat_nodup (hp.dis.sublist (List.take_sublist _ _)) fun c hc => (hp.inc c (List.mem_of_mem_take hc)).2.imp (fun {x y} q e => by omega)
  have := nodup_sub_len _ ((List.range p.n.toNat).map fun (k : Nat) => (k : Int) + 1) hnd (fun x hx => by
    obtain ⟨c, hc, hxc⟩ := List.mem_flatten.1 hx
    have := hp.rng c (List.mem_of_mem_take hc) x hxc
    exact List.mem_map.2 ⟨(x - 1).toNat, List.mem_range.2 (by omega), by omega⟩)
  simpa using this
theorem done_next {p : GProg} {i : Nat} {c : List Int} (hc : (compsL p)[i]? = some c) : doneL p (i + 1) = doneL p i ++ c := by
  unfold doneL
  rw [take_snoc' hc, List.flatten_append]; simp
end Go.Proofs.Ytbfbkpoakmnlpaa

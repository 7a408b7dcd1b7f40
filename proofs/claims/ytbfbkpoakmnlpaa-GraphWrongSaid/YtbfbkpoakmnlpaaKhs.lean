/- The comps in order, plain: graph.sorted returns the strong components in an order in which edges lead back, the smallest first as far as the edges let (sort_ok: PartOk). -/
import Derived.Test.YtbfbkpoakmnlpaaKhn
namespace Go.Proofs.Ytbfbkpoakmnlpaa
def headF (cs : List (List Int)) (i : Int) : Int := (cs.getD i.toNat []).headD 0
def edgeE (g : List (List Int)) (at_ : List Int) : List (Int × Int) :=
  (List.range (g.length - 1)).flatMap fun (i : Nat) => ((rowZ g ((i : Int) + 1)).filter fun b => decide (nthZ at_ ((i : Int) + 1) ≠ nthZ at_ b)).map fun b => (nthZ at_ ((i : Int) + 1), nthZ at_ b)
theorem edge_mem {g : List (List Int)} {at_ : List Int} (e : Int × Int) : e ∈ edgeE g at_ ↔ ∃ a b : Int, 1 ≤ a ∧ a < (g.length : Int) ∧ b ∈ rowZ g a ∧ nthZ at_ a ≠ nthZ at_ b ∧ e = (nthZ at_ a, nthZ at_ b) := by
  unfold edgeE
  rw [List.mem_flatMap]
  constructor
  · rintro ⟨i, hi, he⟩
    have hi := List.mem_range.1 hi
    obtain ⟨b, hb, rfl⟩ := List.mem_map.1 he
    obtain ⟨h1, h2⟩ := List.mem_filter.1 hb
    exact ⟨(i : Int) + 1, b, by omega, by omega, h1, by simpa using h2, rfl⟩
  · rintro ⟨a, b, h1, h2, h3, h4, rfl⟩
    refine ⟨(a - 1).toNat, List.mem_range.2 (by omega), ?_⟩
    have e : (((a - 1).toNat : Nat) : Int) + 1 = a := by omega
    rw [e]
    exact List.mem_map.2 ⟨b, List.mem_filter.2 ⟨h3, by simpa using h4⟩, rfl⟩
/-- graph.sorted. -/
def sortT (g cs : List (List Int)) : List (List Int) := (kOrd (headF cs) (edgeE g (numL (g.length - 1) cs)) cs.length).map fun i => cs.getD i.toNat []
theorem head_mem {c : List Int} (h : c ≠ []) : c.headD 0 ∈ c := by
  cases c with
  | nil => exact absurd rfl h
  | cons a t => simp
section
variable {g cs : List (List Int)}
theorem CompOk.get (h : CompOk g cs) {x : Int} (x1 : 1 ≤ x) (x2 : x < (g.length : Int)) : ∃ (i : Nat) (c : List Int), cs[i]? = some c ∧ x ∈ c := by
  obtain ⟨c, hc, hx⟩ := h.all x x1 x2
  obtain ⟨i, hi⟩ := List.getElem?_of_mem hc
  exact ⟨i, c, hi, hx⟩
theorem edge_ok (h1 : 1 ≤ g.length) (h : CompOk g cs) : EOk (edgeE g (numL (g.length - 1) cs)) cs.length (headF cs) := by
  refine ⟨fun e he => ?_, fun x y x0 x1 y0 y1 he => ?_⟩
  · obtain ⟨a, b, a1, a2, hb, hne, rfl⟩ := (edge_mem e).1 he
    obtain ⟨i, c, hc, ha⟩ := h.get a1 a2
    obtain ⟨j, hj, d, hd, hbd⟩ := h.cl i c hc a ha b hb
    have ea := numL_at h h1 hc ha
    have eb := numL_at h h1 hd hbd
    rw [ea, eb] at hne ⊢
    have := (List.getElem?_eq_some_iff.1 hc).1
    simp only
    omega
  · have gx : cs[x.toNat]? = some (cs.getD x.toNat []) := by
      rw [List.getD_eq_getElem?_getD, List.getElem?_eq_getElem (show x.toNat < cs.length by omega)]; rfl
    have gy : cs[y.toNat]? = some (cs.getD y.toNat []) := by
      rw [List.getD_eq_getElem?_getD, List.getElem?_eq_getElem (show y.toNat < cs.length by omega)]; rfl
    have mx := head_mem (h.inc _ (List.mem_of_getElem? gx)).1
    have my := head_mem (h.inc _ (List.mem_of_getElem? gy)).1
    have he : (cs.getD x.toNat []).headD 0 = (cs.getD y.toNat []).headD 0 := he
    rw [← he] at my
    have := h.uniq gx gy mx my
    omega
/-- What graph.Components returns. -/
structure PartOk (g cs : List (List Int)) : Prop where
  ok : CompOk g cs
  cons : ∀ (i : Nat) c d, cs[i]? = some c → cs[i + 1]? = some d → c.headD 0 < d.headD 0 ∨ ∃ a ∈ d, ∃ b ∈ c, b ∈ rowZ g a
theorem sort_ok (h1 : 1 ≤ g.length) (h : CompOk g cs) : PartOk g (sortT g cs) := by
  have hE := edge_ok h1 h
  have ho := kOrd_ok hE
  obtain ⟨o, hoe⟩ : ∃ o, o = kOrd (headF cs) (edgeE g (numL (g.length - 1) cs)) cs.length := ⟨_, rfl⟩
  rw [← hoe] at ho
  have hs : sortT g cs = o.map fun i => cs.getD i.toNat [] := by rw [hoe]; rfl
  rw [hs]
  have gk : ∀ k ∈ o, cs[k.toNat]? = some (cs.getD k.toNat []) := fun k hk => by
    have := (ho.all k).1 hk
    rw [List.getD_eq_getElem?_getD, List.getElem?_eq_getElem (show k.toNat < cs.length by omega)]; rfl
  have gi : ∀ (i : Nat) c, (o.map fun i => cs.getD i.toNat [])[i]? = some c → ∃ k, o[i]? = some k ∧ cs[k.toNat]? = some c ∧ 0 ≤ k := fun i c hc => by
    rw [List.getElem?_map] at hc
    cases hk : o[i]? with
    | none => rw [hk] at hc; simp at hc
    | some k =>
      rw [hk] at hc
      have hc : cs.getD k.toNat [] = c := by simpa using hc
      have hm := List.mem_of_getElem? hk
      exact ⟨k, rfl, by rw [← hc]; exact gk k hm, ((ho.all k).1 hm).1⟩
  have back : ∀ (i : Nat) k, o[i]? = some k → (o.map fun i => cs.getD i.toNat [])[i]? = some (cs.getD k.toNat []) := fun i k hk => by rw [List.getElem?_map, hk]; rfl
  have mem : ∀ c ∈ o.map (fun i => cs.getD i.toNat []), c ∈ cs := fun c hc => by
    obtain ⟨k, hk, rfl⟩ := List.mem_map.1 hc
    exact List.mem_of_getElem? (gk k hk)
  refine ⟨⟨fun x x1 x2 => ?_, fun c hc => h.rng c (mem c hc), ?_, fun c hc => h.inc c (mem c hc), fun c hc => h.scc c (mem c hc), fun i c hc x hx y hy => ?_⟩, fun i c d hc hd => ?_⟩
  · obtain ⟨i, c, hc, hx⟩ := h.get x1 x2
    have hi := (List.getElem?_eq_some_iff.1 hc).1
    have hio := (ho.all (i : Int)).2 ⟨by omega, by omega⟩
    refine ⟨c, List.mem_map.2 ⟨(i : Int), hio, ?_⟩, hx⟩
    have := gk (i : Int) hio
    rw [Int.toNat_natCast] at this ⊢
    rw [hc] at this
    exact (Option.some.inj this).symm
  · rw [List.pairwise_map]
    refine (List.nodup_iff_pairwise_ne.1 ho.nod).imp_of_mem fun {a b} ha hb hne x hx hx2 => hne ?_
    have := h.uniq (gk a ha) (gk b hb) hx hx2
    have := (ho.all a).1 ha
    have := (ho.all b).1 hb
    omega
  · obtain ⟨k, hk, hck, k0⟩ := gi i c hc
    obtain ⟨j, hj, d, hd, hyd⟩ := h.cl _ _ hck x hx y hy
    by_cases e : j = k.toNat
    · subst e
      rw [hck] at hd; cases hd
      exact ⟨i, Nat.le_refl _, c, hc, hyd⟩
    · have xr := h.rng c (List.mem_of_getElem? hck) x hx
      have ex := numL_at h h1 hck hx
      have ey := numL_at h h1 hd hyd
      have hE2 : (k, (j : Int)) ∈ edgeE g (numL (g.length - 1) cs) := (edge_mem _).2 ⟨x, y, xr.1, xr.2, hy, by rw [ex, ey]; omega, by rw [ex, ey]; congr 1; omega⟩
      obtain ⟨q, hq, hqo⟩ := ho.topo i k hk _ hE2
      refine ⟨q, by omega, cs.getD ((j : Int)).toNat [], back q _ hqo, ?_⟩
      rw [Int.toNat_natCast, List.getD_eq_getElem?_getD, hd]; exact hyd
  · obtain ⟨k, hk, hck, k0⟩ := gi i c hc
    obtain ⟨l, hl, hdl, l0⟩ := gi (i + 1) d hd
    have ec : headF cs k = c.headD 0 := by unfold headF; rw [List.getD_eq_getElem?_getD, hck]; rfl
    have ed : headF cs l = d.headD 0 := by unfold headF; rw [List.getD_eq_getElem?_getD, hdl]; rfl
    rcases ho.cons i k l hk hl with hlt | hlt
    · left; rw [← ec, ← ed]; exact hlt
    · right
      obtain ⟨a, b, a1, a2, hb, hne, he⟩ := (edge_mem _).1 hlt
      obtain ⟨e1, e2⟩ := Prod.mk.inj he
      obtain ⟨p, cp, hcp, hap⟩ := h.get a1 a2
      obtain ⟨q, _, cq, hcq, hbq⟩ := h.cl p cp hcp a hap b hb
      have ea := numL_at h h1 hcp hap
      have eb := numL_at h h1 hcq hbq
      have hp : p = l.toNat := by omega
      have hq : q = k.toNat := by omega
      subst hp hq
      rw [hdl] at hcp; cases hcp
      rw [hck] at hcq; cases hcq
      exact ⟨a, hap, b, hbq, hb⟩
end
end Go.Proofs.Ytbfbkpoakmnlpaa

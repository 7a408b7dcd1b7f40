/- The contract of slices.SortFunc over a row of sets. -/
import Derived.Test.YtdmcclfagjgcgaaGreatSrl
import Derived.Test.YtdmcclfagjgcgaaGreatSrw
import Derived.Test.YtdmcclfagjgcgaaGreatSw3
import Derived.Test.YtdmcclfagjgcgaaGreatSt6
namespace Go.Proofs.YtdmcclfagjgcgaaGreat
open Go.RowKit Go.Shelf Go.Sort Go.Lib

theorem swo_cmpL {n : Nat} (xs : Fin n → List Int) : SWO (ltOf fun i j : Fin n => cmpL (xs i) (xs j)) where
  irrefl x := by unfold ltOf; rw [cmpL_lt]; exact lexLt_irrefl _
  trans x y z h1 h2 := by unfold ltOf at *; rw [cmpL_lt] at *; exact lexLt_trans _ _ _ h1 h2
  ntrans x y z h1 h2 := by
    unfold ltOf at *
    rw [cmpL_lt] at *
    by_cases e1 : xs x = xs y
    · rw [e1]; exact h2
    · by_cases e2 : xs y = xs z
      · rw [← e2]; exact h1
      · have g1 := (lexLt_total _ _ e1).resolve_left (by rw [h1]; simp)
        have g2 := (lexLt_total _ _ e2).resolve_left (by rw [h2]; simp)
        exact lexLt_asymm _ _ (lexLt_trans _ _ _ g2 g1)
theorem kept_sortWorld {n : Nat} [Inhabited (Fin n)] (enc : Fin n → Value) (w : World) (g m : Nat) (d : Array (Fin n)) (os : Array Obj) : Kept [g] w (sortWorld enc w g 0 m d os) := by
  refine ⟨rfl, rfl, rfl, ?_, fun k hk hne => ?_⟩
  · simp [sortWorld, putRow, mapBlock, Sort.ahead]
  · have h1 : k < (putRow enc (Sort.ahead w m) g 0 d).heap.size := by simp [putRow, mapBlock, Sort.ahead]; exact hk
    have hgk : g ≠ k := fun e => hne (by simp [e])
    unfold sortWorld
    rw [heap_grow_old _ _ h1]
    show ((w.heap.modify g (onCells (putCells enc 0 d))))[k]? = w.heap[k]?
    rw [Array.getElem?_modify, if_neg hgk]
theorem extract_all {α : Type} (a : Array α) (n : Nat) (h : a.size = n) : a.extract 0 n = a := by subst h; simp
set_option maxHeartbeats 2000000 in
/-- The row is sorted; nothing else changes. -/
theorem sortSets_any (W : World) (base : Nat) (v : Value) (cs : List Value) (M : List Nat) (xs : List (List Int)) (h : SetRow W base v cs M xs) (hM : ∀ k, v.ownBlock = some k → k ∈ M) (hl : xs.length < 4611686018427387904) (hl2 : xs.length ≤ 17592186044416) :
    Calls Tryz.prog 76 #[v, .func (.func 77) #[] #[]] W fun e w' => e = .returned (.tuple #[]) ∧ ∃ ys A c, ys.Perm xs ∧ (ys.Pairwise fun a b => lexLt b a = false) ∧ v = .slice A ys.length c ∧ SlIs (slR intR) w' A ys.length c ys ∧ Kept v.ownBlock.toList W w' := by
  obtain ⟨A, c, hv, hsl⟩ := h.sl hl2
  rcases Nat.eq_zero_or_pos xs.length with h0 | h0
  · have hn := AnyF.slices_SortFunc_none (P := Tryz.prog) (ρ := sortL_ren) { sortL with } A c (.func (.func 77) #[] #[]) W
    change Calls Tryz.prog 76 _ _ _ at hn
    have hx : xs = [] := List.eq_nil_of_length_eq_zero h0
    subst hx
    rw [hv]
    refine hn.mono ?_
    rintro e w' ⟨rfl, rfl⟩
    exact ⟨rfl, [], A, c, List.Perm.refl _, by simp, rfl, hsl, Kept.refl _ _⟩
  · obtain ⟨n, hn⟩ : ∃ n, n = xs.length := ⟨_, rfl⟩
    have hi : Inhabited (Fin n) := ⟨⟨0, by omega⟩⟩
    rcases h.1.2 with ⟨hv0, hz⟩ | ⟨g, cap, cur, hv1, hgb, hg, hlc, hcm, hcs, htk⟩
    · omega
    · have hcs' : cs.length = n := by have := h.1.1; omega
      obtain ⟨enc, henc⟩ : ∃ enc : Fin n → Value, enc = fun i => cs.getD i.val undef := ⟨_, rfl⟩
      obtain ⟨xf, hxf⟩ : ∃ xf : Fin n → List Int, xf = fun i => xs.getD i.val [] := ⟨_, rfl⟩
      obtain ⟨d, hd⟩ : ∃ d : Array (Fin n), d = Array.ofFn id := ⟨_, rfl⟩
      have hds : d.size = n := by rw [hd]; simp
      have hdj : ∀ j (hj : j < n), d[j]! = ⟨j, hj⟩ := fun j hj => by rw [hd, getElem!_pos _ j (by simpa using hj)]; simp
      have hat : ∀ i : Fin n, ∃ (A : Option Addr) (l c : Nat), enc i = .slice A l c ∧ SlIs intR W A l c (xf i) ∧ Off M A l := fun i => by
        obtain ⟨A, l, c, h1, h2, h3⟩ := h.2 i (xf i) (by rw [hxf]; show xs[i.val]? = some (xs.getD i.val []); rw [List.getD_eq_getElem?_getD, List.getElem?_eq_getElem (by omega)]; rfl)
        exact ⟨A, l, c, by rw [henc]; simp only [List.getD_eq_getElem?_getD, h1]; rfl, h2, h3⟩
      have h1 : OneCell enc := fun i => by obtain ⟨A, l, c, e, _⟩ := hat i; rw [e]; rfl
      have hgM : g ∈ M := hM g (by rw [hv1]; rfl)
      have hgl : g < W.heap.size := by
        rcases Nat.lt_or_ge g W.heap.size with h | h
        · exact h
        · rw [Array.getElem?_eq_none h] at hg; cases hg
      have hH : Holds enc W g 0 d := fun j hj => by
        rw [hds] at hj
        refine ⟨?_, by simp [World.frozen?, hg]⟩
        have e1 : cs[j]? = cur[j]? := by
          rw [← htk, List.getElem?_take, if_pos (by omega), Array.getElem?_toList]
        rw [Nat.zero_add, cell_of_row W g j cur _ _ hg, ← e1, hdj j hj, henc]
        simp only [List.getD_eq_getElem?_getD]
        rw [List.getElem?_eq_getElem (by omega)]
        rfl
      have hcmp : CmpReads Tryz.prog 77 #[] enc (fun i j => cmpL (xf i) (xf j)) g 0 d.size W := fun m os dk _ x y => by
        obtain ⟨A, l, c, e1, h1, o1⟩ := hat x
        obtain ⟨B, k, q, e2, h2, o2⟩ := hat y
        have hk := (kept_sortWorld enc W g m dk os).more (T := M) (fun k hk => by simp at hk; subst hk; exact hgM)
        rw [e1, e2]
        exact (compareL_any A l c B k q (xf x) (xf y) _ (h1.keptM hk o1) (h2.keptM hk o2)).mono fun e w' ⟨he, hw⟩ => ⟨he, 0, hw.symm⟩
      have eg : ∀ args w, (callFunc 77 args).run Tryz.prog w = .ok (.enter 77 args) w := enters_of Tryz.func77 (by kernel_rfl) rfl
      have hcon := Any.slices_SortFunc sortL enc h1 _ (swo_cmpL xf) 77 #[] g 0 cap d W eg hcmp.lays hH hgl (by omega)
      change Calls Tryz.prog 76 _ _ _ at hcon
      rw [hv1, ← hn, ← hds]
      refine hcon.mono ?_
      rintro e w' ⟨rfl, d', k, os, hp, hs, rfl⟩
      have hd's : d'.size = n := by rw [hp.1, hds]
      have hdl : d.toList.map xf = xs := by
        apply List.ext_getElem
        · simp [hds, hn]
        · intro i g1 g2
          have hin : i < n := by omega
          have := hdj i hin
          rw [getElem!_pos d i (by omega)] at this
          simp only [List.getElem_map, Array.getElem_toList, this, hxf]
          rw [List.getD_eq_getElem?_getD, List.getElem?_eq_getElem g2]; rfl
      have hpm : d'.toList.Perm d.toList := by
        have := hp.2.2
        rw [extract_all d' d.size (by rw [hd's, hds]), extract_all d d.size rfl] at this
        exact this
      have hH' := holds_sortWorld enc W g 0 k d d' os hgl hH (by omega)
      have hkk := kept_sortWorld enc W g k d' os
      have hys : (d'.toList.map xf).length = n := by simp [hd's]
      refine ⟨rfl, d'.toList.map xf, some ⟨g, 0, none⟩, cap, ?_, ?_, ?_, ?_, ?_⟩
      · rw [← hdl]; exact hpm.map xf
      · rw [List.pairwise_map, List.pairwise_iff_getElem]
        intro i j hi hj hij
        have := hs i j (Nat.zero_le _) hij (by rw [hds, ← hd's]; simpa using hj)
        rw [getElem!_pos d' i (by simpa using hi), getElem!_pos d' j (by simpa using hj)] at this
        unfold ltOf at this
        rw [cmpL_lt] at this
        simpa using this
      · rw [hys, hds]
      · rw [hys]
        refine ⟨hys.symm, by omega, ⟨hcm, by omega⟩, fun _ => ⟨_, rfl, Nat.lt_of_lt_of_le hgl hkk.size, fun i x hx => ?_⟩⟩
        have hi : i < n := by have := (List.getElem?_eq_some_iff.1 hx).1; omega
        have hxe : x = xf d'[i]! := by
          rw [getElem!_pos d' i (by omega)]
          have := (List.getElem?_eq_some_iff.1 hx).2
          simpa using this.symm
        obtain ⟨A', l', c', e1, g1, o1⟩ := hat d'[i]!
        refine ⟨[enc d'[i]!], ⟨A', l', c', by rw [e1], by rw [hxe]; exact g1.keptM (hkk.more (T := M) (fun k hk => by simp at hk; subst hk; exact hgM)) o1⟩, fun j u hu => ?_⟩
        match j, hu with
        | 0, hu =>
          simp at hu; subst hu
          rw [add_none]
          have := (hH' i (by omega)).1
          simpa [slR] using this
        | j + 1, hu => simp at hu
      · exact hkk
end Go.Proofs.YtdmcclfagjgcgaaGreat

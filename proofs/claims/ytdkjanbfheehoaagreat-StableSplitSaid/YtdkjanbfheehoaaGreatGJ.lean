/- Several texts in one: Srw, Srt, Sw9, Swa. -/
import Derived.Test.YtdkjanbfheehoaaGreatRdb
import Derived.Test.YtdkjanbfheehoaaGreatSrl
import Derived.Test.YtdkjanbfheehoaaGreatGH
import Derived.Test.YtdkjanbfheehoaaGreatSt6
import Derived.Test.YtdkjanbfheehoaaGreatGI
import Derived.Test.YtdkjanbfheehoaaGreatSw8
/- A row of sets of the call's own, to which sets are appended. -/
namespace Go.Proofs.YtdkjanbfheehoaaGreat
open Go.RowKit

theorem info_ints : (Tryz.prog.info? 23).map (fun i => (i.zero, i.size, i.bytes)) = some (some (.slice none 0 0), 1, 24) := by kernel_rfl
/-- append(v, s) at sets, the new element being boxed first. -/
theorem appL {w : World} {base : Nat} {v : Value} {l : Nat} {cs : List Value} (h : w.ownsRow base 23 1 v l cs) (A : Option Addr) (m c : Nat) (hs : l < 1099511627776) (hb : base ≤ w.heap.size) (ty : TypeId) :
  ∃ v' w', (Builtin.append_ #[39, 39] ty #[v, .slice (some ⟨w.heap.size, 0, none⟩) 1 1]).run Tryz.prog (w.alloc (.cells #[.slice A m c] 23)) = .ok v' w' ∧ w'.ownsRow base 23 1 v' (l + 1) (cs ++ [.slice A m c]) ∧ w.grownBy w' v.ownBlock ∧
   (∀ k, v'.ownBlock = some k → v.ownBlock = some k ∨ w.heap.size ≤ k) := by
 obtain ⟨i0, hi0, hz0, hz1, hz2⟩ := info_parts info_ints
 obtain ⟨v', w', hrun, h2, h3, _, h5⟩ := run_append_own_at (P := Tryz.prog) (w.alloc (.cells #[.slice A m c] 23)) base 39 ty 23 i0 _ 1 24 Tryz.underlying39 hi0 hz0 hz1 hz2 rfl (by omega) v l _ (h.alloc _) ⟨w.heap.size, 0, none⟩ 1 1 [.slice A m c] rfl
  (by intro j u hj; match j, hj with
    | 0, hj => simp at hj; subst hj; simp [Addr.add]
    | j + 1, hj => simp at hj) (by simp [Value.oneCell']) (by unfold maxLen; omega) (by omega) (by simp; omega)
 refine ⟨v', w', hrun, h2, ⟨h3.os, h3.tape, h3.output, Nat.le_trans (by simp) h3.size, fun k hk hne => ?_⟩, fun k hk => ?_⟩
 ·rw [h3.block k (by simp; omega) hne]; exact Below.heap_alloc w _ k hk
 ·rcases h5 with h5 | h5 <;> rw [h5] at hk
  ·exact .inl hk
  ·simp at hk; exact .inr (by omega)
/-- The row v reads as the sets pre, whose arrays lie off M. -/
def SetRow (W : World) (base : Nat) (v : Value) (cs : List Value) (M : List Nat) (pre : List (List Int)) : Prop :=
 W.ownsRow base 23 1 v pre.length cs ∧ ∀ (i : Nat) (x : List Int), pre[i]? = some x → ∃ (A : Option Addr) (l c : Nat), cs[i]? = some (Value.slice A l c) ∧ SlIs intR W A l c x ∧ Off M A l
theorem SetRow.nil (W : World) (base : Nat) (M : List Nat) : SetRow W base (.slice none 0 0) [] M [] := ⟨World.ownsRow_nil W base _ _, fun i x h => by simp at h⟩
theorem SetRow.keep {base : Nat} {v : Value} {cs : List Value} {M : List Nat} {pre : List (List Int)} {A B : World} {k : Nat} (h : SetRow A base v cs M pre) (hn : ∀ o, A.heap[k]? = some o → o.isCells = false) (hk : Kept [k] A B) : SetRow B base v cs M pre := by
 obtain ⟨ho, hr⟩ := h
 refine ⟨ownsRow_keptS ho hk (fun q hq hm => by simp at hm; subst hm; exact own_ne ho hn hq), fun i x hx => ?_⟩
 obtain ⟨A', l, c, h1, h2, h3⟩ := hr i x hx
 exact ⟨A', l, c, h1, h2.keptM hk (h2.offN hn), h3⟩
theorem SetRow.bel {base : Nat} {v : Value} {cs : List Value} {M : List Nat} {pre : List (List Int)} {A B : World} (h : SetRow A base v cs M pre) (hb : Below A.heap.size A B) : SetRow B base v cs M pre :=
 h.keep (k := A.heap.size) (fun o e => by simp at e) (Kept.of_below hb _)
/-- A write that hits neither the row nor a set. -/
theorem SetRow.kept {base : Nat} {v : Value} {cs : List Value} {M S : List Nat} {pre : List (List Int)} {A B : World} (h : SetRow A base v cs M pre) (hk : Kept S A B) (hS : ∀ k ∈ S, k ∈ M ∧ v.ownBlock ≠ some k) : SetRow B base v cs M pre := by
 obtain ⟨ho, hr⟩ := h
 refine ⟨ownsRow_keptS ho hk (fun q hq hm => (hS q hm).2 hq), fun i x hx => ?_⟩
 obtain ⟨A', l, c, h1, h2, h3⟩ := hr i x hx
 exact ⟨A', l, c, h1, h2.keptM (hk.more fun k hm => (hS k hm).1) h3, h3⟩
theorem SetRow.sl {W : World} {base : Nat} {v : Value} {cs : List Value} {M : List Nat} {pre : List (List Int)} (h : SetRow W base v cs M pre) (hs : pre.length ≤ 17592186044416) : ∃ A c, v = .slice A pre.length c ∧ SlIs (slR intR) W A pre.length c pre :=
 SlIs.of_own (R := slR intR) h.1 rfl hs (fun i x hx => by
  obtain ⟨A, l, c, h1, h2, _⟩ := h.2 i x hx
  refine ⟨A, l, c, ?_, h2⟩
  have hi := (List.getElem?_eq_some_iff.1 h1).1
  simp only [slR, Nat.mul_one]
  rw [List.drop_eq_getElem_cons hi, (List.getElem?_eq_some_iff.1 h1).2]
  rfl)
/-- An element of a slice of sets. -/
theorem SlIs.set {w : World} {A : Option Addr} {l c : Nat} {xs : List (List Int)} (h : SlIs (slR intR) w A l c xs) {k : Nat} {x : List Int} (hx : xs[k]? = some x) :
  ∃ b off A' l' c', A = some ⟨b, off, none⟩ ∧ b < w.heap.size ∧ w.cell? ⟨b, off + k, none⟩ = some (.slice A' l' c') ∧ SlIs intR w A' l' c' x := by
 obtain ⟨b, off, cs, e, hl, ⟨A', l', c', rfl, hs⟩, hc⟩ := h.at_ hx
 exact ⟨b, off, A', l', c', e, hl, by have := hc 0 _ rfl; simpa [slR] using this, hs⟩
/-- A write to something that is no block of cells. -/
theorem SlIs.keepN {w B : World} {A : Option Addr} {l c : Nat} {xs : List (List Int)} {k : Nat} (h : SlIs (slR intR) w A l c xs) (hn : ∀ o, w.heap[k]? = some o → o.isCells = false) (hk : Kept [k] w B) : SlIs (slR intR) B A l c xs := by
 refine ⟨h.1, h.2.1, h.2.2.1, fun h0 => ?_⟩
 obtain ⟨ad, e, hl, hc⟩ := h.2.2.2 h0
 refine ⟨ad, e, Nat.lt_of_lt_of_le hl hk.size, fun i x hx => ?_⟩
 obtain ⟨cs, ⟨A', l', c', rfl, hs⟩, hcell⟩ := hc i x hx
 refine ⟨[.slice A' l' c'], ⟨A', l', c', rfl, hs.keptM hk (hs.offN hn)⟩, fun j u hu => hk.cell (hcell j u hu) fun hm => ?_⟩
 have hcc := hcell j u hu
 obtain ⟨b, o, e2⟩ := addr_of_cell hcc
 rw [e2] at hcc hm
 obtain ⟨ob, h1, h2⟩ := cells_of_cell hcc
 simp at hm
 subst hm
 rw [hn _ h1] at h2; cases h2
/-- One more set. -/
theorem SetRow.snoc {W V : World} {base : Nat} {v v' : Value} {cs : List Value} {M M' : List Nat} {pre : List (List Int)} {x : List Int} {A : Option Addr} {l c : Nat}
  (h : SetRow W base v cs M pre) (hx : SlIs intR W A l c x) (ho : Off M A l)
  (hV : V.ownsRow base 23 1 v' (pre.length + 1) (cs ++ [.slice A l c])) (hk : Kept M W V) (hm : ∀ k ∈ M', k ∈ M ∨ W.heap.size ≤ k) : SetRow V base v' (cs ++ [.slice A l c]) M' (pre ++ [x]) := by
 have off : ∀ {A : Option Addr} {l c : Nat} {xs : List Int}, SlIs intR W A l c xs → Off M A l → Off M' A l := fun hs ho h0 ad e hq => by
  rcases hm _ hq with h1 | h1
  ·exact ho h0 ad e h1
  ·have := hs.blk_lt h0 e; omega
 have hcl : cs.length = pre.length := by simpa using h.1.1
 refine ⟨by simpa using hV, fun i z hz => ?_⟩
 rcases Nat.lt_trichotomy i pre.length with hi | hi | hi
 ·rw [List.getElem?_append_left hi] at hz
  obtain ⟨A', l', c', h1, h2, h3⟩ := h.2 i z hz
  exact ⟨A', l', c', by rw [List.getElem?_append_left (by omega)]; exact h1, h2.keptM hk h3, off h2 h3⟩
 ·subst hi
  simp at hz; subst hz
  exact ⟨A, l, c, by rw [← hcl]; simp, hx.keptM hk ho, off hx ho⟩
 ·rw [List.getElem?_eq_none (by simp; omega)] at hz; cases hz
/-- While the stable ones are gathered: the row lies behind cell B0; T are cells that stay. -/
def GatI (w : World) (B0 base : Nat) (T : List (Nat × TypeId × Array Value)) (f : List Int → Bool) (M : List Nat) (pre : List (List Int)) (W : World) : Prop :=
 ∃ v cs, M = MOf B0 v ∧ Blk W B0 39 #[v] ∧ SetRow W base v cs M (pre.filter f) ∧ Below w.heap.size w W ∧ base ≤ W.heap.size ∧ (∀ t ∈ T, Blk W t.1 t.2.1 t.2.2 ∧ t.1 ≠ B0 ∧ t.1 < base)
theorem GatI.keep {w : World} {B0 base : Nat} {T : List (Nat × TypeId × Array Value)} {f : List Int → Bool} {M : List Nat} {pre : List (List Int)} {A B : World} {k : Nat} (h : GatI w B0 base T f M pre A) (hn : ∀ o, A.heap[k]? = some o → o.isCells = false) (hk : Kept [k] A B) (hkw : w.heap.size ≤ k) : GatI w B0 base T f M pre B := by
 obtain ⟨v, cs, rfl, hb, hr, hw, hbs, hT⟩ := h
 exact ⟨v, cs, rfl, hk.blk hb (by have := blk_ne hb hn; simp; omega), hr.keep hn hk, Kept.below hw hk hw.size (fun q hq => by simp at hq; omega), Nat.le_trans hbs hk.size,
  fun t ht => ⟨hk.blk (hT t ht).1 (by have := blk_ne (hT t ht).1 hn; simp; omega), (hT t ht).2⟩⟩
theorem GatI.cells {w : World} {B0 base : Nat} {T : List (Nat × TypeId × Array Value)} {f : List Int → Bool} {M : List Nat} {pre : List (List Int)} {W : World} (h : GatI w B0 base T f M pre W) : ∀ k ∈ M, ∃ o, W.heap[k]? = some o ∧ o.isCells = true := by
 obtain ⟨v, cs, rfl, hb, ⟨ho, _⟩, _⟩ := h
 intro k hk
 rcases MOf_mem hk with rfl | hv
 ·exact ⟨_, hb, rfl⟩
 ·rcases ho.2 with ⟨rfl, _⟩ | ⟨g, cap, cur, rfl, _, hg, _⟩
  ·simp [Value.ownBlock] at hv
  ·have : g = k := by simpa [Value.ownBlock] using hv
   subst this; exact ⟨_, hg, rfl⟩
theorem GatI.bel {w : World} {B0 base : Nat} {T : List (Nat × TypeId × Array Value)} {f : List Int → Bool} {M : List Nat} {pre : List (List Int)} {A B : World} (h : GatI w B0 base T f M pre A) (hb : Below A.heap.size A B) : GatI w B0 base T f M pre B := by
 have hw := h
 obtain ⟨v, cs, rfl, hb1, ho, hbw, _⟩ := hw
 exact h.keep (k := A.heap.size) (fun o e => by simp at e) (Kept.of_below hb _) hbw.size
end Go.Proofs.YtdkjanbfheehoaaGreat
/- The contract of slices.SortFunc over a row of sets. -/
namespace Go.Proofs.YtdkjanbfheehoaaGreat
open Go.RowKit Go.Shelf Go.Sort Go.Lib

theorem swo_cmpL {n : Nat} (xs : Fin n → List Int) : SWO (ltOf fun i j : Fin n => cmpL (xs i) (xs j)) where
 irrefl x := by unfold ltOf; rw [cmpL_lt]; exact lexLt_irrefl _
 trans x y z h1 h2 := by unfold ltOf at *; rw [cmpL_lt] at *; exact lexLt_trans _ _ _ h1 h2
 ntrans x y z h1 h2 := by
  unfold ltOf at *
  rw [cmpL_lt] at *
  by_cases e1 : xs x = xs y
  ·rw [e1]; exact h2
  ·by_cases e2 : xs y = xs z
   ·rw [← e2]; exact h1
   ·have g1 := (lexLt_total _ _ e1).resolve_left (by rw [h1]; simp)
    have g2 := (lexLt_total _ _ e2).resolve_left (by rw [h2]; simp)
    exact lexLt_asymm _ _ (lexLt_trans _ _ _ g2 g1)
theorem kept_sortWorld {n : Nat} [Inhabited (Fin n)] (enc : Fin n → Value) (w : World) (g m : Nat) (d : Array (Fin n)) (os : Array Obj) : Kept [g] w (sortWorld enc w g 0 m d os) := by
 refine ⟨rfl, rfl, rfl, ?_, fun k hk hne => ?_⟩
 ·simp [sortWorld, putRow, mapBlock, Sort.ahead]
 ·have h1 : k < (putRow enc (Sort.ahead w m) g 0 d).heap.size := by simp [putRow, mapBlock, Sort.ahead]; exact hk
  have hgk : g ≠ k := fun e => hne (by simp [e])
  unfold sortWorld
  rw [heap_grow_old _ _ h1]
  show ((w.heap.modify g (onCells (putCells enc 0 d))))[k]? = w.heap[k]?
  rw [Array.getElem?_modify, if_neg hgk]
theorem extract_all {α : Type} (a : Array α) (n : Nat) (h : a.size = n) : a.extract 0 n = a := by subst h; simp
set_option maxHeartbeats 2000000 in
/-- The row is sorted; nothing else changes. -/
theorem sortSets_any (W : World) (base : Nat) (v : Value) (cs : List Value) (M : List Nat) (xs : List (List Int)) (h : SetRow W base v cs M xs) (hM : ∀ k, v.ownBlock = some k → k ∈ M) (hl : xs.length < 4611686018427387904) (hl2 : xs.length ≤ 17592186044416) :
  Calls Tryz.prog 33 #[v, .func (.func 34) #[] #[]] W fun e w' => e = .returned (.tuple #[]) ∧ ∃ ys A c, ys.Perm xs ∧ (ys.Pairwise fun a b => lexLt b a = false) ∧ v = .slice A ys.length c ∧ SlIs (slR intR) w' A ys.length c ys ∧ Kept v.ownBlock.toList W w' := by
 obtain ⟨A, c, hv, hsl⟩ := h.sl hl2
 rcases Nat.eq_zero_or_pos xs.length with h0 | h0
 ·have hn := AnyF.slices_SortFunc_none (P := Tryz.prog) (ρ := sortL_ren) { sortL with } A c (.func (.func 34) #[] #[]) W
  change Calls Tryz.prog 33 _ _ _ at hn
  have hx : xs = [] := List.eq_nil_of_length_eq_zero h0
  subst hx
  rw [hv]
  refine hn.mono ?_
  rintro e w' ⟨rfl, rfl⟩
  exact ⟨rfl, [], A, c, List.Perm.refl _, by simp, rfl, hsl, Kept.refl _ _⟩
 ·obtain ⟨n, hn⟩ : ∃ n, n = xs.length := ⟨_, rfl⟩
  have hi : Inhabited (Fin n) := ⟨⟨0, by omega⟩⟩
  rcases h.1.2 with ⟨hv0, hz⟩ | ⟨g, cap, cur, hv1, hgb, hg, hlc, hcm, hcs, htk⟩
  ·omega
  ·have hcs' : cs.length = n := by have := h.1.1; omega
   obtain ⟨enc, henc⟩ : ∃ enc : Fin n → Value, enc = fun i => cs.getD i.val undef := ⟨_, rfl⟩
   obtain ⟨xf, hxf⟩ : ∃ xf : Fin n → List Int, xf = fun i => xs.getD i.val [] := ⟨_, rfl⟩
   obtain ⟨d, hd⟩ : ∃ d : Array (Fin n), d = Array.ofFn id := ⟨_, rfl⟩
   have hds : d.size = n := by rw [hd]; simp
   have hdj : ∀ j (hj : j < n), d[j]! = ⟨j, hj⟩ := fun j hj => by rw [hd, getElem!_pos _ j (by simpa using hj)]; simp
   have hat : ∀ i : Fin n, ∃ (A : Option Addr) (l c : Nat), enc i = .slice A l c ∧ SlIs intR W A l c (xf i) ∧ Off M A l := fun i => by
    obtain ⟨A, l, c, h1, h2, h3⟩ := h.2 i (xf i) (by rw [hxf]; show xs[i.val]? = some (xs.getD i.val []); rw [List.getD_eq_getElem?_getD, List.getElem?_eq_getElem (by omega)]; rfl)
    exact ⟨A, l, c, by rw [henc]; simp only [List.getD_eq_getElem?_getD, h1]; rfl, h2, h3⟩
   have h1 : OneCell enc := fun i => by obtain ⟨A, l, c, e, _⟩ := hat i; rw [e]; rfl
   have hgM : g ∈ M := hM g (by rw [hv1]; rfl)
   have hgl : g < W.heap.size := by
    rcases Nat.lt_or_ge g W.heap.size with h | h
    ·exact h
    ·rw [Array.getElem?_eq_none h] at hg; cases hg
   have hH : Holds enc W g 0 d := fun j hj => by
    rw [hds] at hj
    refine ⟨?_, by simp [World.frozen?, hg]⟩
    have e1 : cs[j]? = cur[j]? := by
     rw [← htk, List.getElem?_take, if_pos (by omega), Array.getElem?_toList]
    rw [Nat.zero_add, cell_of_row W g j cur _ _ hg, ← e1, hdj j hj, henc]
    simp only [List.getD_eq_getElem?_getD]
    rw [List.getElem?_eq_getElem (by omega)]
    rfl
   have hcmp : CmpReads Tryz.prog 34 #[] enc (fun i j => cmpL (xf i) (xf j)) g 0 d.size W := fun m os dk _ x y => by
    obtain ⟨A, l, c, e1, h1, o1⟩ := hat x
    obtain ⟨B, k, q, e2, h2, o2⟩ := hat y
    have hk := (kept_sortWorld enc W g m dk os).more (T := M) (fun k hk => by simp at hk; subst hk; exact hgM)
    rw [e1, e2]
    exact (compareL_any A l c B k q (xf x) (xf y) _ (h1.keptM hk o1) (h2.keptM hk o2)).mono fun e w' ⟨he, hw⟩ => ⟨he, 0, hw.symm⟩
   have eg : ∀ args w, (callFunc 34 args).run Tryz.prog w = .ok (.enter 34 args) w := enters_of Tryz.func34 (by kernel_rfl) rfl
   have hcon := Any.slices_SortFunc sortL enc h1 _ (swo_cmpL xf) 34 #[] g 0 cap d W eg hcmp.lays hH hgl (by omega)
   change Calls Tryz.prog 33 _ _ _ at hcon
   rw [hv1, ← hn, ← hds]
   refine hcon.mono ?_
   rintro e w' ⟨rfl, d', k, os, hp, hs, rfl⟩
   have hd's : d'.size = n := by rw [hp.1, hds]
   have hdl : d.toList.map xf = xs := by
    apply List.ext_getElem
    ·simp [hds, hn]
    ·intro i g1 g2
     have hin : i < n := by omega
     have := hdj i hin
     rw [getElem!_pos d i (by omega)] at this
     simp only [List.getElem_map, Array.getElem_toList, this, hxf]
     rw [List.getD_eq_getElem?_getD, List.getElem?_eq_getElem g2]; rfl
   have hpm : d'.toList.Perm d.toList := by
    have := hp.2.2
    rw [extract_all d' d.size (by rw [hd's, hds]), extract_all d d.size rfl] at this
    exact this
   have hH' := holds_sortWorld enc W g 0 k d d' os hgl hH (by omega)
   have hkk := kept_sortWorld enc W g k d' os
   have hys : (d'.toList.map xf).length = n := by simp [hd's]
   refine ⟨rfl, d'.toList.map xf, some ⟨g, 0, none⟩, cap, ?_, ?_, ?_, ?_, ?_⟩
   ·rw [← hdl]; exact hpm.map xf
   ·rw [List.pairwise_map, List.pairwise_iff_getElem]
    intro i j hi hj hij
    have := hs i j (Nat.zero_le _) hij (by rw [hds, ← hd's]; simpa using hj)
    rw [getElem!_pos d' i (by simpa using hi), getElem!_pos d' j (by simpa using hj)] at this
    unfold ltOf at this
    rw [cmpL_lt] at this
    simpa using this
   ·rw [hys, hds]
   ·rw [hys]
    refine ⟨hys.symm, by omega, ⟨hcm, by omega⟩, fun _ => ⟨_, rfl, Nat.lt_of_lt_of_le hgl hkk.size, fun i x hx => ?_⟩⟩
    have hi : i < n := by have := (List.getElem?_eq_some_iff.1 hx).1; omega
    have hxe : x = xf d'[i]! := by
     rw [getElem!_pos d' i (by omega)]
     have := (List.getElem?_eq_some_iff.1 hx).2
     simpa using this.symm
    obtain ⟨A', l', c', e1, g1, o1⟩ := hat d'[i]!
    refine ⟨[enc d'[i]!], ⟨A', l', c', by rw [e1], by rw [hxe]; exact g1.keptM (hkk.more (T := M) (fun k hk => by simp at hk; subst hk; exact hgM)) o1⟩, fun j u hu => ?_⟩
    match j, hu with
    | 0, hu =>
     simp at hu; subst hu
     rw [add_none]
     have := (hH' i (by omega)).1
     simpa [slR] using this
    | j + 1, hu => simp at hu
   ·exact hkk
end Go.Proofs.YtdkjanbfheehoaaGreat
/- Contract: stable.All, of a valid program of few atoms. -/
namespace Go.Proofs.YtdkjanbfheehoaaGreat
open Go.RowKit Go.Shelf
attribute [local go_sem] Oper.semAt_some

/-- The atoms while they are laid. -/
def atmF (k : Nat) : Nat → Int := fun i => if i < k then (i : Int) + 1 else 0
theorem atmF_set (k : Nat) : (fun j => if j = k then (k : Int) + 1 else atmF k j) = atmF (k + 1) := by
 funext j; unfold atmF
 by_cases h : j = k
 ·subst h; rw [if_pos rfl, if_pos (by omega)]
 ·rw [if_neg h]
  by_cases h2 : j < k
  ·rw [if_pos h2, if_pos (by omega)]
  ·rw [if_neg h2, if_neg (by omega)]
theorem atmF_all (N : Nat) : (List.range N).map (atmF N) = atomsL N := by
 unfold atomsL
 apply List.map_congr_left
 intro i hi
 have := List.mem_range.1 hi
 unfold atmF; rw [if_pos this]

set_option maxRecDepth 100000 in
set_option maxHeartbeats 4000000 in
theorem all_any (p : GProg) (nA : Option Addr) (nl nc : Nat) (sA : Option Addr) (sl sc : Nat) (rA : Option Addr) (rl rc : Nat) (mA : Option Addr) (ml mc : Nat) (w : World) (hp : ProgIn w p nA nl nc sA sl sc rA rl rc mA ml mc) (hv : validE p = 0) (hs : SmallP p) :
  Calls Tryz.prog 10 #[.agg #[.int .i64 p.n, .slice nA nl nc, .slice sA sl sc, .slice rA rl rc, .slice mA ml mc]] w fun e w' => ∃ A l c, e = .returned (.tuple #[.slice A l c, .int .i64 0]) ∧ SlIs (slR intR) w' A l c (allL p) ∧ Below w.heap.size w w' := by
 have cV := fun W (hb : Below w.heap.size w W) => valid_any p nA nl nc sA sl sc rA rl rc mA ml mc W (hp.ext hb)
 have cD := fun W (hb : Below w.heap.size w W) => disjunctive_any p nA nl nc sA sl sc rA rl rc mA ml mc W (hp.ext hb)
 have cI := fun A l c x W (hb : Below w.heap.size w W) (hx : SlIs intR W A l c x) (hsub : x.Sublist (atomsL p.n.toNat)) =>
  is_any p nA nl nc sA sl sc rA rl rc mA ml mc A l c x (disB p) W (hp.ext hb) hx (hs.check hv hsub) (fun _ => by
   have h1 := hsub.length_le
   have h2 := hs.n12
   have h3 := hs.n0
   have h4 : (atomsL p.n.toNat).length = p.n.toNat := by simp [atomsL]
   have := hx.len
   omega) (fun hd => hs.red x hd) hs.n0
 rw [hv] at cV
 change ∀ W, Below w.heap.size w W → Calls _ _ _ W fun e w' => e = .returned (.bool (disB p)) ∧ Below W.heap.size W w' at cD
 obtain ⟨N, hN⟩ : ∃ N : Nat, p.n = (N : Int) := ⟨p.n.toNat, by have := hs.n0; omega⟩
 have hN12 : N ≤ 12 := by have := hs.n12; omega
 have hNt : p.n.toNat = N := by omega
 have hall := fun ys => all_perm p (ys := ys)
 rw [hNt] at hall
 simp only [hNt] at cI
 have hic : ∀ x, isC p x (disB p) = isL p x := isC_is hs.is
 simp only [hic] at cI
 have hmk := make_int N (by omega)
 simp only [hN] at cV cD cI ⊢
 have e12 : ¬ (12 : Int) < (N : Int) := by omega
 have HP := Lib.hid hp; clear hp
 have HV := Lib.hid hv; clear hv
 have CV := Lib.hid cV; clear cV
 have CD := Lib.hid cD; clear cD
 have CI := Lib.hid cI; clear cI
 have HALL := Lib.hid hall; clear hall
 have HIC := Lib.hid hic; clear hic
 have HS := Lib.hid hs; clear hs
 have HNT := Lib.hid hNt; clear hNt
 have HN := Lib.hid hN; clear hN
 refine (callsIn_wide (n := 5)).1 ?_
 refine callsIn_of_wp_marks Tryz.func10 rfl trivial ?_ rfl
 simp only [Tryz.ntmps10, List.size_toArray, List.length_cons, List.length_nil, Nat.reduceAdd, Nat.reduceSub, Array.replicate_succ, Array.replicate_zero, List.push_toArray, List.append_toArray, List.nil_append, List.cons_append]
 gi_wp2_with fail
 refine ⟨trivial, ?_⟩
 refine (callsIn_wide.2 (CV.out _ (bel_alloc _ _))).mono ?_
 rintro e w1 ⟨rfl, hb1⟩
 have hx1 := (Blk.new w 27 #[.int .i64 (N : Int), .slice nA nl nc, .slice sA sl sc, .slice rA rl rc, .slice mA ml mc]).bel hb1
 obtain ⟨p0, p1, p2, p3, p4, p5⟩ := pcells hx1
 have HB1 := Lib.hid (bel_trans (bel_alloc _ _) hb1)
 clear hb1
 have HX1 := Lib.hid hx1; clear hx1
 gi_wp2_with fail
 have hat0 : Blk (w1.alloc (.cells (fnCells N fun _ => 0) 3)) w1.heap.size 3 (fnCells N (atmF 0)) := by
  have : (fun _ => 0) = atmF 0 := by funext i; simp [atmF]
  rw [this]; exact blk_new rfl _ _
 have hbw0 := bel_trans HB1.out (bel_alloc w1 (.cells (fnCells N fun _ => 0) 3))
 have hx2 := HX1.out.alloc (.cells (fnCells N fun _ => 0) 3)
 have hz1 : w1.heap.size < (w1.alloc (.cells (fnCells N fun _ => 0) 3)).heap.size := by simp
 have hz0 : w.heap.size < w1.heap.size := HX1.out.lt
 generalize w1.alloc (.cells (fnCells N fun _ => 0) 3) = W0 at *
 have HAT0 := Lib.hid hat0; clear hat0
 have HBW0 := Lib.hid hbw0; clear hbw0
 have HX2 := Lib.hid hx2; clear hx2
 clear p0 p1 p2 p3 p4 hmk
 gi_loopw [25] (fun t wr => ∃ (k : Nat), k ≤ N ∧ t = .int .i64 (k : Int) ∧ Blk wr w1.heap.size 3 (fnCells N (atmF k)) ∧ Kept [w1.heap.size] W0 wr) (fun t _ => N - (intOf t).toNat)
 case atStart => exact ⟨0, Nat.zero_le _, rfl, HAT0.out, Kept.refl _ _⟩
 case round =>
  obtain ⟨k, hk, rfl, hbk, hkp⟩ := hrel
  by_cases hlt : k < N
  ·have k0 : (0 : Int) ≤ (k : Int) := by omega
   have k1 : (k : Int) < (N : Int) := by omega
   have c0 : wr.cell? ⟨w1.heap.size, k, none⟩ = some (.int .i64 0) := by rw [hbk.cell, fnCells_get _ _ _ hlt]; simp [atmF]
   have f0 : wr.frozen? ⟨w1.heap.size, k, none⟩ = false := hbk.frozen k
   have hb2 := hbk.set_ k (.int .i64 ((k : Int) + 1))
   rw [fnCells_set, atmF_set] at hb2
   have hk2 := hkp.set (p := ⟨w1.heap.size, k, none⟩) (.inl (by simp)) (.int .i64 ((k : Int) + 1))
   have HBK := Lib.hid hbk; clear hbk
   have HKP := Lib.hid hkp; clear hkp
   have HB2 := Lib.hid hb2; clear hb2
   have HK2 := Lib.hid hk2; clear hk2
   gi_wp2_with fail
   go_roundw
   case rel => exact ⟨k + 1, by omega, by go_num, HB2.out, HK2.out⟩
   case measure => simp [intOf]; omega
  ·obtain rfl : N = k := by omega
   have hat := sl_of_blk hbk (by omega) (fun i hi => by unfold atmF; split <;> (constructor <;> omega))
   rw [atmF_all] at hat
   have hbw2 := Kept.below HBW0.out hkp HBW0.out.size (fun q hq => by simp at hq; omega)
   have hx3 := hkp.blk HX2.out (by simp; omega)
   obtain ⟨p0, p1, p2, p3, p4, p5⟩ := pcells hx3
   have hz2 := hkp.size
   have hatl := hat.len
   have HBK := Lib.hid hbk; clear hbk
   have HKP := Lib.hid hkp; clear hkp
   have HAT := Lib.hid hat; clear hat
   have HBW2 := Lib.hid hbw2; clear hbw2
   have HX3 := Lib.hid hx3; clear hx3
   have HATL := Lib.hid hatl; clear hatl
   gi_wp2_with fail
   refine ⟨trivial, ?_⟩
   refine (callsIn_wide.2 (CD.out _ (bel_trans HBW2.out (bel_alloc _ _)))).mono ?_
   rintro e w2 ⟨rfl, hb2⟩
   have hx4 := (HX3.out.alloc (.cells #[.slice none 0 0] 39)).bel hb2
   have hat2 := (HAT.out.ext (bel_alloc wr (.cells #[.slice none 0 0] 39))).ext hb2
   have hbx := (Blk.new wr 39 #[.slice none 0 0]).bel hb2
   have HBw2 := Lib.hid (bel_trans (bel_trans HBW2.out (bel_alloc wr (.cells #[.slice none 0 0] 39))) hb2)
   have hz3 := hbx.lt
   clear hb2 p0 p1 p2 p3 p4
   obtain ⟨p0, p1, p2, p3, p4, p6⟩ := pcells hx4
   have HX4 := Lib.hid hx4; clear hx4
   have HAT2 := Lib.hid hat2; clear hat2
   have HBX := Lib.hid hbx; clear hbx
   gi_wp2_with fail
   refine ⟨trivial, ?_⟩
   refine (callsIn_wide.2 (subsets_any _ _ _ _)).mono ?_
   rintro e w3 ⟨rfl, rfl⟩
   gi_wp2_with fail
   have hW : Blk ((w2.alloc (.cells #[.bool (disB p)] 4)).alloc (.cells #[.slice (some ⟨w1.heap.size, 0, none⟩) N N] 23)) w.heap.size 27 #[.int .i64 (N : Int), .slice nA nl nc, .slice sA sl sc, .slice rA rl rc, .slice mA ml mc] ∧ Blk ((w2.alloc (.cells #[.bool (disB p)] 4)).alloc (.cells #[.slice (some ⟨w1.heap.size, 0, none⟩) N N] 23)) wr.heap.size 39 #[.slice none 0 0] ∧ Blk ((w2.alloc (.cells #[.bool (disB p)] 4)).alloc (.cells #[.slice (some ⟨w1.heap.size, 0, none⟩) N N] 23)) w2.heap.size 4 #[.bool (disB p)] ∧ Blk ((w2.alloc (.cells #[.bool (disB p)] 4)).alloc (.cells #[.slice (some ⟨w1.heap.size, 0, none⟩) N N] 23)) (w2.heap.size + 1) 23 #[.slice (some ⟨w1.heap.size, 0, none⟩) N N] ∧ Below w2.heap.size w2 ((w2.alloc (.cells #[.bool (disB p)] 4)).alloc (.cells #[.slice (some ⟨w1.heap.size, 0, none⟩) N N] 23)) ∧ ((w2.alloc (.cells #[.bool (disB p)] 4)).alloc (.cells #[.slice (some ⟨w1.heap.size, 0, none⟩) N N] 23)).heap.size = w2.heap.size + 1 + 1 :=
    ⟨(HX4.out.alloc _).alloc _, (HBX.out.alloc _).alloc _, (blk_new rfl _ _).alloc _, blk_new (by simp) _ _, bel_trans (bel_alloc _ _) (bel_alloc _ _), by simp⟩
   generalize ((w2.alloc (.cells #[.bool (disB p)] 4)).alloc (.cells #[.slice (some ⟨w1.heap.size, 0, none⟩) N N] 23)) = W3 at *
   obtain ⟨e1, e2, e3, e4, e5, e6⟩ := hW
   have hbW := bel_trans HBw2.out e5
   have E1 := Lib.hid e1; clear e1
   have E2 := Lib.hid e2; clear e2
   have E3 := Lib.hid e3; clear e3
   have E4 := Lib.hid e4; clear e4
   have E5 := Lib.hid e5; clear e5
   have HBW := Lib.hid hbW; clear hbW
   refine wpIn_rangeM rfl (by omega) (gf := 67) (lb := #[.pointer (some ⟨w2.heap.size + 1, 0, none⟩)]) rfl trivial (enters_of Tryz.func67 (by kernel_rfl) rfl)
    (sub1_iter 4 (by omega) (w2.heap.size + 1) (some ⟨w1.heap.size, 0, none⟩) N N (atomsL N) [wr.heap.size] W3
     (fun M W hM hk => ⟨hk.cell (E4.out.cell 0) (fun hq => by rcases hM _ hq with h | h <;> simp at h <;> omega), (HAT2.out.ext E5.out).keptM hk (fun h0 ad e hq => by
      cases e
      rcases hM _ hq with h | h
      ·simp at h; omega
      ·simp at h; omega)⟩) hN12)
    (fun _ _ _ _ h => h.size) (fun _ _ _ _ _ _ h hs hk => h.go hs hk) (GatI w wr.heap.size W3.heap.size [(w.heap.size, 27, #[.int .i64 (N : Int), .slice nA nl nc, .slice sA sl sc, .slice rA rl rc, .slice mA ml mc]), (w2.heap.size, 4, #[.bool (disB p)])] (isL p)) (fun _ _ _ => False)
    (fun _ _ _ _ h hb => h.bel hb) (fun _ _ _ _ h hb => h) (fun _ _ _ _ _ hk0 h hn hk => h.keep hn hk (Nat.le_trans HBW.out.size hk0)) (fun _ _ _ _ _ hk0 h hn hk => h)
    (fun M pre W h => h.cells)
    ⟨.slice none 0 0, [], rfl, E2.out, SetRow.nil _ _ _, HBW.out, Nat.le_refl _, fun t ht => by
     simp at ht
     rcases ht with rfl | rfl
     ·exact ⟨E1.out, by simp; omega, by simp; omega⟩
     ·exact ⟨E3.out, by simp; omega, by simp; omega⟩⟩
    (fun x args a' W => ∃ (A : Option Addr) (l c : Nat), args = #[.slice A l c] ∧ a' = { tmps := #[.agg #[.int .i64 (N : Int), .slice nA nl nc, .slice sA sl sc, .slice rA rl rc, .slice mA ml mc], .pointer (some ⟨w.heap.size, 0, none⟩), .slice none 0 0, .int .i64 0, .int .i64 0, .slice (some ⟨w1.heap.size, 0, none⟩) N N, u6, .pointer (some ⟨wr.heap.size, 0, none⟩), .pointer (some ⟨w2.heap.size, 0, none⟩), .slice A l c, .agg #[.int .i64 (N : Int), .slice nA nl nc, .slice sA sl sc, .slice rA rl rc, .slice mA ml mc], .int .i64 0, .bool false, .int .i64 0, .bool false, undef, .bool (decide (12 < (N : Int))), .pointer (some ⟨w.heap.size, 0, none⟩), .int .i64 (N : Int), .bool (decide (12 < (N : Int))), .pointer (some ⟨w.heap.size, 0, none⟩), .int .i64 (N : Int), .slice (some ⟨w1.heap.size, 0, none⟩) N N, .slice (some ⟨w1.heap.size, 0, none⟩) N N, .int .i64 (N : Int), .int .i64 (N : Int), .bool false, u27, u28, u29, u30, u31, u32, u33, .agg #[.int .i64 (N : Int), .slice nA nl nc, .slice sA sl sc, .slice rA rl rc, .slice mA ml mc], .bool (disB p), .slice (some ⟨w1.heap.size, 0, none⟩) N N, .func (.func 67) #[] #[.pointer (some ⟨w2.heap.size + 1, 0, none⟩)], .slice A l c, undef, undef, undef, undef, undef, undef, undef, undef, undef, undef, undef], defers := [] })
    (fun _ _ _ _ _ _ h _ _ => h)
    ?assign ?body ?done ?stop
   case assign =>
    intro l M pre x args W K hi hg hK
    obtain ⟨A, l', c, rfl, hs, ho⟩ := hg
    have HI := Lib.hid hi; clear hi
    have HS := Lib.hid hs; clear hs
    have HO := Lib.hid ho; clear ho
    gi_wp2
    exact hK _ _ (Below.refl _ _) ⟨A, l', c, rfl, rfl⟩
   case body =>
    rintro l M pre x args a' W hi hpf ⟨A, l', c, rfl, hs, ho⟩ ⟨A2, l2, c2, he, rfl⟩
    simp at he
    obtain ⟨rfl, rfl, rfl⟩ := he
    have hpl : pre.length < 1099511627776 := by
     have h1 := hpf.length_le
     have h2 : (2 : Nat) ^ N ≤ 2 ^ 12 := Nat.pow_le_pow_right (by omega) hN12
     rw [subs_len] at h1
     simp [atomsL] at h1
     omega
    have hfl := List.length_filter_le (isL p) pre
    have hsub : x.Sublist (atomsL N) := (subs_mem _ _).1 (hpf.subset (by simp))
    have hwi : Below w.heap.size w W := by obtain ⟨_, _, _, _, _, h, _⟩ := hi; exact h
    have cX := CI.out A l' c x W hwi hs hsub
    have hT1 : Blk W w.heap.size 27 #[.int .i64 (N : Int), .slice nA nl nc, .slice sA sl sc, .slice rA rl rc, .slice mA ml mc] ∧ Blk W w2.heap.size 4 #[.bool (disB p)] := by
     obtain ⟨_, _, _, _, _, _, _, h⟩ := hi
     exact ⟨(h _ (List.mem_cons_self ..)).1, (h _ (List.mem_cons_of_mem _ (List.mem_cons_self ..))).1⟩
    obtain ⟨t1, t2⟩ := hT1
    obtain ⟨p0, p1, p2, p3, p4, p6⟩ := pcells t1
    have p7 : W.cell? ⟨w2.heap.size, 0, none⟩ = some (.bool (disB p)) := t2.cell 0
    cases hq : isL p x with
    | false =>
     rw [hq] at cX
     have hff : (pre ++ [x]).filter (isL p) = pre.filter (isL p) := by rw [List.filter_append]; simp [hq]
     have HI := Lib.hid hi; clear hi
     have HS := Lib.hid hs; clear hs
     have HO := Lib.hid ho; clear ho
     have CX := Lib.hid cX; clear cX
     have HQ := Lib.hid hq; clear hq
     have HFF := Lib.hid hff; clear hff
     have HWI := Lib.hid hwi; clear hwi
     have HSUB := Lib.hid hsub; clear hsub
     have T1 := Lib.hid t1; clear t1
     have T2 := Lib.hid t2; clear t2
     have HPF := Lib.hid hpf; clear hpf
     gi_wp2_with fail
     refine ⟨trivial, ?_⟩
     refine (callsIn_wide.2 CX.out).mono ?_
     rintro e w4 ⟨rfl, hb4⟩
     have hi4 := HI.out.bel hb4
     have HB4 := Lib.hid hb4
     clear hb4
     have HI4 := Lib.hid hi4; clear hi4
     gi_wp2_with fail
     obtain ⟨v, cs, rfl, h1, h2, h3⟩ := HI4.out
     exact ⟨_, ⟨v, cs, rfl, h1, by rw [HFF.out]; exact h2, h3⟩, Kept.of_below HB4.out _, fun k hk => .inl hk⟩
    | true =>
     rw [hq] at cX
     have hff : (pre ++ [x]).filter (isL p) = pre.filter (isL p) ++ [x] := by rw [List.filter_append]; simp [hq]
     have HI := Lib.hid hi; clear hi
     have HS := Lib.hid hs; clear hs
     have HO := Lib.hid ho; clear ho
     have CX := Lib.hid cX; clear cX
     have HQ := Lib.hid hq; clear hq
     have HFF := Lib.hid hff; clear hff
     have HWI := Lib.hid hwi; clear hwi
     have HSUB := Lib.hid hsub; clear hsub
     have T1 := Lib.hid t1; clear t1
     have T2 := Lib.hid t2; clear t2
     have HPF := Lib.hid hpf; clear hpf
     gi_wp2_with fail
     refine ⟨trivial, ?_⟩
     refine (callsIn_wide.2 CX.out).mono ?_
     rintro e w4 ⟨rfl, hb4⟩
     have hi4 := HI.out.bel hb4
     have hs4 := HS.out.ext hb4
     have HB4 := Lib.hid hb4
     clear hb4 p0 p1 p2 p3 p4 p7
     obtain ⟨v, cs, rfl, hb, hr, hw, hbs, hT⟩ := hi4
     obtain ⟨v', w5, hrun, hown, hg5, hat⟩ := appL hr.1 A l' c (by omega) hbs 39
     obtain ⟨g', cap', rfl, hgb, hgl⟩ := World.ownsRow.form hown (by omega)
     have hro : some wr.heap.size ≠ v.ownBlock := fun e => by have := (hr.1.lt _ e.symm).1; omega
     have hc0 : w4.cell? ⟨wr.heap.size, 0, none⟩ = some v := hb.cell 0
     have hc5 := (hg5.cell_far ⟨wr.heap.size, 0, none⟩ hb.lt hro).trans hc0
     have hf5 := (hg5.frozen_far ⟨wr.heap.size, 0, none⟩ hb.lt hro).trans (hb.frozen 0)
     have kM : Kept (MOf wr.heap.size v) w4 (w5.setCell ⟨wr.heap.size, 0, none⟩ (.slice (some ⟨g', 0, none⟩) ((pre.filter (isL p)).length + 1) cap')) := ((Kept.refl _ w4).grown hg5 (fun q hq => .inl (by unfold MOf; simp [hq]))).set (.inl (by simp [MOf])) _
     have hmV : ∀ k ∈ MOf wr.heap.size (.slice (some ⟨g', 0, none⟩) ((pre.filter (isL p)).length + 1) cap'), k ∈ MOf wr.heap.size v ∨ w4.heap.size ≤ k := fun k hk => by
      rcases MOf_mem hk with rfl | hv
      ·exact .inl (by simp [MOf])
      ·rcases hat k hv with h | h
       ·exact .inl (by unfold MOf; simp [h])
       ·exact .inr h
     have oV := ownsRow_keptS hown ((Kept.refl [wr.heap.size] w5).set (p := ⟨wr.heap.size, 0, none⟩) (.inl (by simp)) (.slice (some ⟨g', 0, none⟩) ((pre.filter (isL p)).length + 1) cap')) (fun q hq hm => by have := (hown.lt q hq).1; simp at hm; omega)
     have rV := hr.snoc hs4 HO.out oV kM hmV
     have bV : Blk (w5.setCell ⟨wr.heap.size, 0, none⟩ (.slice (some ⟨g', 0, none⟩) ((pre.filter (isL p)).length + 1) cap')) wr.heap.size 39 #[(.slice (some ⟨g', 0, none⟩) ((pre.filter (isL p)).length + 1) cap')] := (hb.grown hg5 hro).set_ 0 _
     have hwV : Below w.heap.size w (w5.setCell ⟨wr.heap.size, 0, none⟩ (.slice (some ⟨g', 0, none⟩) ((pre.filter (isL p)).length + 1) cap')) := Kept.below hw kM hw.size (fun q hq => by
      rcases MOf_mem hq with rfl | hv
      ·have := HBW2.out.size; omega
      ·have := (hr.1.lt q hv).1; have := HBW.out.size; omega)
     have hsV := kM.size
     have hTV : ∀ t ∈ [(w.heap.size, 27, #[.int .i64 (N : Int), .slice nA nl nc, .slice sA sl sc, .slice rA rl rc, .slice mA ml mc]), (w2.heap.size, 4, #[.bool (disB p)])], Blk (w5.setCell ⟨wr.heap.size, 0, none⟩ (.slice (some ⟨g', 0, none⟩) ((pre.filter (isL p)).length + 1) cap')) t.1 t.2.1 t.2.2 ∧ t.1 ≠ wr.heap.size ∧ t.1 < W3.heap.size := fun t ht => ⟨kM.blk (hT t ht).1 (fun hm => by
      rcases MOf_mem hm with h | h
      ·exact (hT t ht).2.1 h
      ·have := (hr.1.lt _ h).1; have := (hT t ht).2.2; omega), (hT t ht).2⟩
     have hfin : GatI w wr.heap.size W3.heap.size [(w.heap.size, 27, #[.int .i64 (N : Int), .slice nA nl nc, .slice sA sl sc, .slice rA rl rc, .slice mA ml mc]), (w2.heap.size, 4, #[.bool (disB p)])] (isL p) (MOf wr.heap.size (.slice (some ⟨g', 0, none⟩) ((pre.filter (isL p)).length + 1) cap')) (pre ++ [x]) (w5.setCell ⟨wr.heap.size, 0, none⟩ (.slice (some ⟨g', 0, none⟩) ((pre.filter (isL p)).length + 1) cap')) :=
      ⟨_, _, rfl, bV, by rw [HFF.out]; exact rV, hwV, by omega, hTV⟩
     have hkW : Kept (MOf wr.heap.size v) W (w5.setCell ⟨wr.heap.size, 0, none⟩ (.slice (some ⟨g', 0, none⟩) ((pre.filter (isL p)).length + 1) cap')) := (Kept.of_below HB4.out _).trans kM
     have hmW : ∀ k ∈ MOf wr.heap.size (.slice (some ⟨g', 0, none⟩) ((pre.filter (isL p)).length + 1) cap'), k ∈ MOf wr.heap.size v ∨ W.heap.size ≤ k := fun k hk => by
      rcases hmV k hk with h | h
      ·exact .inl h
      ·exact .inr (Nat.le_trans HB4.out.size h)
     have HB := Lib.hid hb; clear hb
     have HR := Lib.hid hr; clear hr
     have HW := Lib.hid hw; clear hw
     have HT := Lib.hid hT; clear hT
     have HRUN := Lib.hid hrun; clear hrun
     have HOWN := Lib.hid hown; clear hown
     have HG5 := Lib.hid hg5; clear hg5
     have HAT := Lib.hid hat; clear hat
     have HRO := Lib.hid hro; clear hro
     have KM := Lib.hid kM; clear kM
     have HMV := Lib.hid hmV; clear hmV
     have OV := Lib.hid oV; clear oV
     have RV := Lib.hid rV; clear rV
     have BV := Lib.hid bV; clear bV
     have HWV := Lib.hid hwV; clear hwV
     have HTV := Lib.hid hTV; clear hTV
     have HFIN := Lib.hid hfin; clear hfin
     have HKW := Lib.hid hkW; clear hkW
     have HMW := Lib.hid hmW; clear hmW
     gi_wp2_with (gi_at_builtin; refine wpListIn_append_run rfl _ _ _ rfl _ _ rfl rfl _ _ HRUN.out ?_)
     exact ⟨_, HFIN.out, HKW.out, HMW.out⟩
   case done =>
    intro D M W hD hi hdf
    obtain ⟨v, cs, rfl, hb, hr, hw, hbs, hT⟩ := hi
    have hn : ∀ o, W.heap[D]? = some o → o.isCells = false := fun o h => by rw [hdf] at h; cases h; rfl
    have hDo := own_ne hr.1 hn
    have hDb := blk_ne hb hn
    have hfl := List.length_filter_le (isL p) (subsL (atomsL N))
    have hsl : (subsL (atomsL N)).length ≤ 4096 := by
     have h2 : (2 : Nat) ^ N ≤ 2 ^ 12 := Nat.pow_le_pow_right (by omega) hN12
     rw [subs_len]
     simp [atomsL]
     omega
    have hc0 : W.cell? ⟨wr.heap.size, 0, none⟩ = some v := hb.cell 0
    have cS := sortSets_any W W3.heap.size v cs (MOf wr.heap.size v) _ hr (fun k hk => by unfold MOf; simp [hk]) (by omega) (by omega)
    have HDF := Lib.hid hdf
    clear hdf
    have HB := Lib.hid hb; clear hb
    have HR := Lib.hid hr; clear hr
    have HW := Lib.hid hw; clear hw
    have HBS := Lib.hid hbs; clear hbs
    have HT := Lib.hid hT; clear hT
    have HN := Lib.hid hn; clear hn
    have HDO := Lib.hid hDo; clear hDo
    have HDB := Lib.hid hDb; clear hDb
    have HFL := Lib.hid hfl; clear hfl
    have HSL := Lib.hid hsl; clear hsl
    have CS := Lib.hid cS; clear cS
    gi_wp2_with fail
    refine ⟨trivial, ?_⟩
    refine (callsIn_wide.2 CS.out).mono ?_
    rintro e w5 ⟨rfl, ys, A, c, hperm, hpw, rfl, hys, hk5⟩
    have hya : ys = allL p := HALL.out ys hperm hpw
    have hmo : ∀ q, q ∈ (Value.slice A ys.length c).ownBlock.toList → (Value.slice A ys.length c).ownBlock = some q := fun q hq => by simpa using hq
    have hb5 : Blk w5 wr.heap.size 39 #[.slice A ys.length c] := hk5.blk HB.out (fun hq => by have := (HR.out.1.lt _ (hmo _ hq)).1; omega)
    have hd5 : w5.heap[D]? = some (.deferred (some [])) := (hk5.block D (Array.getElem?_eq_some_iff.1 HDF.out).1 (fun hq => HDO.out (hmo _ hq))).trans HDF.out
    have hw5 := Kept.below HW.out hk5 HW.out.size (fun q hq => by have := (HR.out.1.lt _ (hmo _ hq)).1; have := HBW.out.size; omega)
    have hc5 : w5.cell? ⟨wr.heap.size, 0, none⟩ = some (.slice A ys.length c) := hb5.cell 0
    have hkD := kept_putObj w5 D (.deferred none)
    have hn5 : ∀ o, w5.heap[D]? = some o → o.isCells = false := fun o h => by rw [hd5] at h; cases h; rfl
    have hyf := hys.keepN hn5 hkD
    have hwf := Kept.below hw5 hkD hw5.size (fun q hq => by simp at hq; have := HBW.out.size; omega)
    have HD5 := Lib.hid hd5
    clear hd5 hc0
    have HPERM := Lib.hid hperm; clear hperm
    have HPW := Lib.hid hpw; clear hpw
    have HYS := Lib.hid hys; clear hys
    have HK5 := Lib.hid hk5; clear hk5
    have HYA := Lib.hid hya; clear hya
    have HMO := Lib.hid hmo; clear hmo
    have HB5 := Lib.hid hb5; clear hb5
    have HW5 := Lib.hid hw5; clear hw5
    have HKD := Lib.hid hkD; clear hkD
    have HN5 := Lib.hid hn5; clear hn5
    have HYF := Lib.hid hyf; clear hyf
    have HWF := Lib.hid hwf; clear hwf
    gi_wp2_with fail
    refine ⟨by simp, .inl ⟨_, _, rfl, run_takeDeferred HD5.out, ?_⟩⟩
    exact ⟨_, results_tmp2 rfl _ _ _, _, _, _, rfl, by rw [← HYA.out]; exact HYF.out, HWF.out⟩
   case stop =>
    intro D c pre W hD hpre hx
    exact hx.elim
end Go.Proofs.YtdkjanbfheehoaaGreat
/- Contract: stable.Best, of a valid program of few atoms. -/
namespace Go.Proofs.YtdkjanbfheehoaaGreat
open Go.RowKit

/-- The row of the best so far. -/
def OwnS (w : World) (base : Nat) (v : Value) (xs : List (List Int)) : Prop := ∃ cs, SetRow w base v cs v.ownBlock.toList xs
theorem OwnS.nil (w : World) (base : Nat) : OwnS w base (.slice none 0 0) [] := ⟨[], SetRow.nil _ _ _⟩
theorem OwnS.bel {A B : World} {base : Nat} {v : Value} {xs : List (List Int)} (h : OwnS A base v xs) (hb : Below A.heap.size A B) : OwnS B base v xs := by
 obtain ⟨cs, h⟩ := h; exact ⟨cs, h.bel hb⟩
theorem OwnS.sl {w : World} {base : Nat} {v : Value} {xs : List (List Int)} (h : OwnS w base v xs) (hs : xs.length ≤ 17592186044416) : ∃ A c, v = .slice A xs.length c ∧ SlIs (slR intR) w A xs.length c xs := by
 obtain ⟨cs, h⟩ := h; exact h.sl hs
/-- append(v, s): s lies below the base. -/
theorem appOwnS {w : World} {base : Nat} {v : Value} {xs : List (List Int)} (h : OwnS w base v xs) {A : Option Addr} {l c : Nat} {x : List Int} (hx : SlIs intR w A l c x) (ho : 0 < l → ∀ ad, A = some ad → ad.block < base) (hs : xs.length < 1099511627776) (hb : base ≤ w.heap.size) (ty : TypeId) :
  ∃ v' w', (Builtin.append_ #[39, 39] ty #[v, .slice (some ⟨w.heap.size, 0, none⟩) 1 1]).run Tryz.prog (w.alloc (.cells #[.slice A l c] 23)) = .ok v' w' ∧ OwnS w' base v' (xs ++ [x]) ∧ w.grownBy w' v.ownBlock ∧
   (∀ k, v.ownBlock = some k → base ≤ k) ∧ (∀ k, v'.ownBlock = some k → v.ownBlock = some k ∨ w.heap.size ≤ k) := by
 obtain ⟨cs, h⟩ := h
 obtain ⟨v', w', hrun, hown, hg, hat⟩ := appL h.1 A l c hs hb ty
 refine ⟨v', w', hrun, ⟨_, h.snoc hx (fun h0 ad e hm => ?_) hown ((Kept.refl _ w).grown hg (fun q hq => .inl (by simp [hq]))) (fun k hk => ?_)⟩, hg, fun k hk => (h.1.lt k hk).1, hat⟩
 ·have h1 : v.ownBlock = some ad.block := by simpa using hm
  have := (h.1.lt _ h1).1
  have := ho h0 ad e
  omega
 ·have h1 : v'.ownBlock = some k := by simpa using hk
  rcases hat k h1 with h2 | h2
  ·exact .inl (by simp [h2])
  ·exact .inr h2
theorem Off.app {w : World} {v v' : Value} (hat : ∀ k, v'.ownBlock = some k → v.ownBlock = some k ∨ w.heap.size ≤ k) {A : Option Addr} {l c : Nat} {x : List Int} (hs : SlIs intR w A l c x) (ho : Off v.ownBlock.toList A l) : Off v'.ownBlock.toList A l := fun h0 ad e hm => by
 have h1 : v'.ownBlock = some ad.block := by simpa using hm
 rcases hat _ h1 with h2 | h2
 ·exact ho h0 ad e (by simp [h2])
 ·have := hs.blk_lt h0 e; omega
theorem kept_own {w w' : World} {v : Value} (hg : w.grownBy w' v.ownBlock) : Kept v.ownBlock.toList w w' := (Kept.refl _ w).grown hg (fun q hq => .inl (by simp [hq]))
theorem best_take {c : List Int → List Int} {all : List (List Int)} {k : Nat} {m : List Int} (h : all[k]? = some m) (s : List (List Int) × List Int) : (all.take (k + 1)).foldl (bestStep c) s = bestStep c ((all.take k).foldl (bestStep c) s) m := by
 rw [take_snoc' h, List.foldl_append]; rfl
theorem lexS_le : ∀ xs : List Int, (lexS xs).length ≤ 2 ^ xs.length
 | [] => by simp [lexS]
 | a :: t => by
  have ih := lexS_le t
  have h1 : (lexS t).tail.length ≤ (lexS t).length - 1 := by simp
  have h2 : 0 < 2 ^ t.length := Nat.two_pow_pos _
  have e : (lexS (a :: t)).length = 1 + (lexS t).length + (lexS t).tail.length := by simp [lexS]; omega
  have h3 : 0 < (lexS t).length := by cases t <;> simp [lexS]
  rw [e, List.length_cons, Nat.pow_succ]; omega
theorem SmallP.all_le {p : GProg} (h : SmallP p) : (allL p).length ≤ 4096 := by
 have h1 := List.length_filter_le (isL p) (lexS (atomsL p.n.toNat))
 have h2 := lexS_le (atomsL p.n.toNat)
 have h3 : (atomsL p.n.toNat).length = p.n.toNat := by simp [atomsL]
 have h4 : (2 : Nat) ^ p.n.toNat ≤ 2 ^ 12 := Nat.pow_le_pow_right (by omega) (by have := h.n12; omega)
 rw [h3] at h2
 unfold allL; omega
set_option maxRecDepth 100000 in
set_option maxHeartbeats 4000000 in
theorem stableBest_any (p : GProg) (nA : Option Addr) (nl nc : Nat) (sA : Option Addr) (sl sc : Nat) (rA : Option Addr) (rl rc : Nat) (mA : Option Addr) (ml mc : Nat) (w : World) (hp : ProgIn w p nA nl nc sA sl sc rA rl rc mA ml mc) (hv : validE p = 0) (hs : SmallP p) :
  Calls Tryz.prog 23 #[.agg #[.int .i64 p.n, .slice nA nl nc, .slice sA sl sc, .slice rA rl rc, .slice mA ml mc]] w fun e w' => ∃ A l c B k q, e = .returned (.tuple #[.slice A l c, .slice B k q, .int .i64 0]) ∧ SlIs (slR intR) w' A l c (bestL (costL p) (allL p)).1 ∧ SlIs intR w' B k q (bestL (costL p) (allL p)).2 ∧ Below w.heap.size w w' := by
 have cA := fun W (hb : Below w.heap.size w W) => all_any p nA nl nc sA sl sc rA rl rc mA ml mc W (hp.ext hb) hv hs
 have cC := fun A l c x W (hb : Below w.heap.size w W) (hx : SlIs intR W A l c x) => costs_any p nA nl nc sA sl sc rA rl rc mA ml mc A l c x W (hp.ext hb) hx (valid_lev hv)
 have hal := hs.all_le
 generalize hall : allL p = all at *
 generalize costL p = cf at *
 cases all with
 | nil =>
  have HP := Lib.hid hp; clear hp
  have CA := Lib.hid cA; clear cA
  have CC := Lib.hid cC; clear cC
  have HALL := Lib.hid hall; clear hall
  have HV := Lib.hid hv; clear hv
  have HS := Lib.hid hs; clear hs
  go_enter Tryz.func23, Tryz.ntmps23
  go_wp2_with fail
  go_fit (CA.out _ (bel_alloc _ _)); rintro e w1 ⟨A, l, c, rfl, hsl, hb1⟩
  have h0 : l = 0 := hsl.len
  subst h0
  have HB1 := Lib.hid (bel_trans (bel_alloc _ _) hb1)
  clear hb1
  have HSL := Lib.hid hsl; clear hsl
  go_wp2_with fail
  go_ret3
  exact ⟨_, _, _, _, _, _, rfl, SlIs.nil _ _, SlIs.nil _ _, HB1.out⟩
 | cons m0 rest =>
  have hfin : bestL cf (m0 :: rest) = (m0 :: rest).foldl (bestStep cf) ([], cf m0) := rfl
  have h00 : (m0 :: rest)[0]? = some m0 := rfl
  have hlp : (m0 :: rest).length ≠ 0 := by simp
  generalize m0 :: rest = all at *
  rw [hfin]
  have HP := Lib.hid hp; clear hp
  have CA := Lib.hid cA; clear cA
  have CC := Lib.hid cC; clear cC
  have HALL := Lib.hid hall; clear hall
  have HV := Lib.hid hv; clear hv
  have HS := Lib.hid hs; clear hs
  have HFIN := Lib.hid hfin; clear hfin
  have H00 := Lib.hid h00; clear h00
  go_enter Tryz.func23, Tryz.ntmps23
  go_wp2_with fail
  go_fit (CA.out _ (bel_alloc _ _)); rintro e w1 ⟨A, l, c, rfl, hsl, hb1⟩
  have hx1 := (Blk.new w 27 #[.int .i64 p.n, .slice nA nl nc, .slice sA sl sc, .slice rA rl rc, .slice mA ml mc]).bel hb1
  obtain ⟨p0, p1, p2, p3, p4, p5⟩ := pcells hx1
  have HB1 := Lib.hid (bel_trans (bel_alloc _ _) hb1)
  clear hb1
  have hl0 : 0 < l := by have := hsl.len; omega
  have HLB := Lib.hid (show l ≤ 4096 by have := hsl.len; omega)
  have hlc := hsl.cap
  have hlm := hsl.max
  have hls := hsl.small
  obtain ⟨ab, ao, mA0, ml0, mc0, rfl, hab, cm0, sm0⟩ := hsl.set H00.out
  have z0 : ((l : Int) == 0) = false := by simp; omega
  have z1 : (0 : Int) < (l : Int) := by omega
  have z2 : ao + 0 = ao := rfl
  rw [z2] at cm0
  have HX1 := Lib.hid hx1; clear hx1
  have HSL := Lib.hid hsl; clear hsl
  have SM0 := Lib.hid sm0; clear sm0
  have HAB := Lib.hid hab; clear hab
  go_wp2_with fail
  refine wp_region_tail 4 [(⟨w.heap.size, 0, none⟩, .int .i64 p.n), (⟨w.heap.size, 1, none⟩, .slice nA nl nc), (⟨w.heap.size, 2, none⟩, .slice sA sl sc), (⟨w.heap.size, 3, none⟩, .slice rA rl rc), (⟨w.heap.size, 4, none⟩, .slice mA ml mc), (⟨ab, ao, none⟩, .slice mA0 ml0 mc0)] (by kernel_rfl) (by kernel_rfl) (by simp [go_sem, *]) ?_
  intro X hk hX; simp only [List.forall_mem_cons] at hk; obtain ⟨kt0, kt1, kt2, kt3, kt4, kt5, kz⟩ := hk; clear kz
  simp only [List.take_succ_cons, List.take_zero, List.drop_succ_cons, List.drop_zero]
  repeat go_big_quiet_step (fail)
  refine wpQuiet_nil ?_
  have hbX : Below w1.heap.size w1 X := by rw [hX]; exact (Below.refl _ _).drew
  clear hX
  have HBX := Lib.hid hbX; clear hbX
  go_wp2_with fail
  go_fit (CC.out mA0 ml0 mc0 m0 _ (bel_trans HB1.out HBX.out) (SM0.out.ext HBX.out)); rintro e w2 ⟨cA0, cl0, cc0, rfl, hc0, hb2⟩
  have HB2 := Lib.hid (bel_trans (bel_trans HB1.out HBX.out) hb2)
  have HB12 := Lib.hid (bel_trans HBX.out hb2)
  have hx2 := HX1.out.bel (bel_trans HBX.out hb2)
  clear hb2 kt0 kt1 kt2 kt3 kt4 kt5 p0 p1 p2 p3 p4 cm0
  have HC0 := Lib.hid hc0; clear hc0
  have HX2 := Lib.hid hx2; clear hx2
  go_wp2_with fail
  go_loopw [7, 8, 32] (fun v b t wr => ∃ (k : Nat) (bA : Option Addr) (bl bc : Nat) (st : List (List Int) × List Int), k ≤ l ∧ t = .int .i64 (k : Int) ∧ b = .slice bA bl bc ∧ OwnS wr w2.heap.size v st.1 ∧ SlIs intR wr bA bl bc st.2 ∧ Off v.ownBlock.toList bA bl ∧ st.1.length ≤ k ∧ Below w2.heap.size w2 wr ∧ st = (all.take k).foldl (bestStep cf) ([], cf m0)) (fun _ _ t _ => l - (intOf t).toNat)
  case atStart => exact ⟨0, cA0, cl0, cc0, ([], cf m0), Nat.zero_le _, rfl, rfl, OwnS.nil _ _, HC0.out, fun _ _ _ h => by simp [Value.ownBlock] at h, Nat.zero_le _, Below.refl _ _, by simp⟩
  case round =>
   obtain ⟨k, bA, bl, bc, st, hk, rfl, rfl, ho, hbs, hoff, hle, hbw, hst⟩ := hrel
   by_cases hlt : k < l
   ·obtain ⟨m, hm, -⟩ := HSL.out.drop hlt
    have hstep := best_take (c := cf) hm ([], cf m0)
    rw [← hst] at hstep
    obtain ⟨ab', ao', mA, ml', mc', e, _, cm1, sm1⟩ := HSL.out.set hm
    cases e
    have hb1r := bel_trans HB12.out hbw
    have cm := (hb1r.cell (p := ⟨ab, ao + k, none⟩) HAB.out).trans cm1
    have sm := sm1.ext hb1r
    have hmb : 0 < ml' → ∀ ad, mA = some ad → ad.block < w2.heap.size := fun h0 ad e => by
     have := sm1.blk_lt h0 e; have := HB12.out.size; omega
    have t1 := HX2.out.bel hbw
    obtain ⟨p0, p1, p2, p3, p4, p5⟩ := pcells t1
    have k0 : (0 : Int) ≤ (k : Int) := by omega
    have k1 : (k : Int) < (l : Int) := by omega
    have cCm := CC.out mA ml' mc' m wr (bel_trans HB2.out hbw) sm
    have hwz := hbw.size
    cases hq1 : betB (cf m) st.2 with
    | true =>
     have hst' : bestStep cf st m = ([m], cf m) := by unfold bestStep; simp [hq1, betB_irrefl]
     rw [hst'] at hstep
     have cB1 : ∀ A l c W, SlIs intR W A l c (cf m) → SlIs intR W bA bl bc st.2 → Calls Tryz.prog 57 #[.slice A l c, .slice bA bl bc] W fun e w' => e = .returned (.bool true) ∧ Below W.heap.size W w' := fun A l c W h1 h2 => by
      rw [← hq1]; exact better_any _ _ _ _ _ _ _ _ W h1 h2
     have cB2 : ∀ A l c W, SlIs intR W A l c (cf m) → Calls Tryz.prog 57 #[.slice A l c, .slice A l c] W fun e w' => e = .returned (.bool false) ∧ Below W.heap.size W w' := fun A l c W h1 => by
      rw [← betB_irrefl (cf m)]; exact better_any _ _ _ _ _ _ _ _ W h1 h1
     clear cm1
     have HSTEP := Lib.hid hstep; clear hstep
     have HST := Lib.hid hst; clear hst
     have HST' := Lib.hid hst'; clear hst'
     have HQ1 := Lib.hid hq1; clear hq1
     have CB1 := Lib.hid cB1; clear cB1
     have CB2 := Lib.hid cB2; clear cB2
     have CCM := Lib.hid cCm; clear cCm
     have SM := Lib.hid sm; clear sm
     have SM1 := Lib.hid sm1; clear sm1
     have HMB := Lib.hid hmb; clear hmb
     have HB1R := Lib.hid hb1r; clear hb1r
     have HBS := Lib.hid hbs; clear hbs
     have HO := Lib.hid ho; clear ho
     have HOFF := Lib.hid hoff; clear hoff
     have HM := Lib.hid hm; clear hm
     have T1 := Lib.hid t1; clear t1
     have HBW := Lib.hid hbw; clear hbw
     go_wp2_with fail
     go_fit CCM.out; rintro e w3 ⟨cA, cl, cc, rfl, hc, hb3⟩
     have HB3 := Lib.hid hb3
     clear hb3 p0 p1 p2 p3 p4 cm
     have HC := Lib.hid hc; clear hc
     go_wp2_with fail
     go_fit (CB1.out cA cl cc _ HC.out (HBS.out.ext HB3.out)); rintro e w4 ⟨rfl, hb4⟩
     have HB4 := Lib.hid hb4
     clear hb4
     have hc4 := HC.out.ext HB4.out
     have HC4 := Lib.hid hc4; clear hc4
     go_wp2_with fail
     go_fit (CB2.out cA cl cc _ HC4.out); rintro e w5 ⟨rfl, hb5⟩
     have hbw5 := bel_trans HBW.out (bel_trans HB3.out (bel_trans HB4.out hb5))
     have hc5 := HC4.out.ext hb5
     have hs5 := SM.out.ext (bel_trans HB3.out (bel_trans HB4.out hb5))
     obtain ⟨v', w6, hrun, hown, hg6, hgb, hat⟩ := appOwnS (OwnS.nil w5 w2.heap.size) hs5 HMB.out (by simp) hbw5.size 39
     have hb6 := bel_grown hbw5 hg6 hbw5.size hgb
     have hc6 := hc5.keptM (kept_own hg6) (fun _ _ _ h => by simp [Value.ownBlock] at h)
     have hof6 : Off v'.ownBlock.toList cA cl := Off.app hat hc5 (fun _ _ _ h => by simp [Value.ownBlock] at h)
     clear hb5 hg6 hgb hat
     have HBW5 := Lib.hid hbw5; clear hbw5
     have HC5 := Lib.hid hc5; clear hc5
     have HS5 := Lib.hid hs5; clear hs5
     have HRUN := Lib.hid hrun; clear hrun
     have HOWN := Lib.hid hown; clear hown
     have HB6 := Lib.hid hb6; clear hb6
     have HC6 := Lib.hid hc6; clear hc6
     have HOF6 := Lib.hid hof6; clear hof6
     go_wp2_with (at_builtin; refine wpList_append_run rfl _ _ _ rfl _ _ rfl rfl _ _ HRUN.out ?_)
     go_roundw
     case rel => exact ⟨k + 1, _, _, _, ([m], cf m), by omega, by go_num, rfl, HOWN.out, HC6.out, HOF6.out, by simp, HB6.out, HSTEP.out.symm⟩
     case measure => simp [intOf]; omega
    | false =>
     have cB1 : ∀ A l c W, SlIs intR W A l c (cf m) → SlIs intR W bA bl bc st.2 → Calls Tryz.prog 57 #[.slice A l c, .slice bA bl bc] W fun e w' => e = .returned (.bool false) ∧ Below W.heap.size W w' := fun A l c W h1 h2 => by
      rw [← hq1]; exact better_any _ _ _ _ _ _ _ _ W h1 h2
     cases hq2 : betB st.2 (cf m) with
     | true =>
      have hst' : bestStep cf st m = st := by unfold bestStep; simp [hq1, hq2]
      rw [hst'] at hstep
      have cB2 : ∀ A l c W, SlIs intR W A l c (cf m) → SlIs intR W bA bl bc st.2 → Calls Tryz.prog 57 #[.slice bA bl bc, .slice A l c] W fun e w' => e = .returned (.bool true) ∧ Below W.heap.size W w' := fun A l c W h1 h2 => by
       rw [← hq2]; exact better_any _ _ _ _ _ _ _ _ W h2 h1
      clear cm1
      have HSTEP := Lib.hid hstep; clear hstep
      have HST := Lib.hid hst; clear hst
      have HST' := Lib.hid hst'; clear hst'
      have HQ1 := Lib.hid hq1; clear hq1
      have HQ2 := Lib.hid hq2; clear hq2
      have CB1 := Lib.hid cB1; clear cB1
      have CB2 := Lib.hid cB2; clear cB2
      have CCM := Lib.hid cCm; clear cCm
      have SM := Lib.hid sm; clear sm
      have SM1 := Lib.hid sm1; clear sm1
      have HMB := Lib.hid hmb; clear hmb
      have HB1R := Lib.hid hb1r; clear hb1r
      have HBS := Lib.hid hbs; clear hbs
      have HO := Lib.hid ho; clear ho
      have HOFF := Lib.hid hoff; clear hoff
      have HM := Lib.hid hm; clear hm
      have T1 := Lib.hid t1; clear t1
      have HBW := Lib.hid hbw; clear hbw
      go_wp2_with fail
      go_fit CCM.out; rintro e w3 ⟨cA, cl, cc, rfl, hc, hb3⟩
      have HB3 := Lib.hid hb3
      clear hb3 p0 p1 p2 p3 p4 cm
      have hs3 := HBS.out.ext HB3.out
      have HC := Lib.hid hc; clear hc
      have HS3 := Lib.hid hs3; clear hs3
      go_wp2_with fail
      go_fit (CB1.out cA cl cc _ HC.out HS3.out); rintro e w4 ⟨rfl, hb4⟩
      have HB4 := Lib.hid hb4
      clear hb4
      have hc4 := HC.out.ext HB4.out
      have hs4 := HS3.out.ext HB4.out
      have HC4 := Lib.hid hc4; clear hc4
      have HS4 := Lib.hid hs4; clear hs4
      go_wp2_with fail
      go_fit (CB2.out cA cl cc _ HC4.out HS4.out); rintro e w5 ⟨rfl, hb5⟩
      have hbz := bel_trans HB3.out (bel_trans HB4.out hb5)
      have hbw5 := bel_trans HBW.out hbz
      have hs5 := HBS.out.ext hbz
      have ho5 := HO.out.bel hbz
      clear hb5 hbz
      have HBW5 := Lib.hid hbw5; clear hbw5
      have HS5 := Lib.hid hs5; clear hs5
      have HO5 := Lib.hid ho5; clear ho5
      go_wp2_with fail
      go_roundw
      case rel => exact ⟨k + 1, _, _, _, st, by omega, by go_num, rfl, HO5.out, HS5.out, HOFF.out, by omega, HBW5.out, HSTEP.out.symm⟩
      case measure => simp [intOf]; omega
     | false =>
      have hst' : bestStep cf st m = (st.1 ++ [m], st.2) := by unfold bestStep; simp [hq1, hq2]
      rw [hst'] at hstep
      have cB2 : ∀ A l c W, SlIs intR W A l c (cf m) → SlIs intR W bA bl bc st.2 → Calls Tryz.prog 57 #[.slice bA bl bc, .slice A l c] W fun e w' => e = .returned (.bool false) ∧ Below W.heap.size W w' := fun A l c W h1 h2 => by
       rw [← hq2]; exact better_any _ _ _ _ _ _ _ _ W h2 h1
      clear cm1
      have HSTEP := Lib.hid hstep; clear hstep
      have HST := Lib.hid hst; clear hst
      have HST' := Lib.hid hst'; clear hst'
      have HQ1 := Lib.hid hq1; clear hq1
      have HQ2 := Lib.hid hq2; clear hq2
      have CB1 := Lib.hid cB1; clear cB1
      have CB2 := Lib.hid cB2; clear cB2
      have CCM := Lib.hid cCm; clear cCm
      have SM := Lib.hid sm; clear sm
      have SM1 := Lib.hid sm1; clear sm1
      have HMB := Lib.hid hmb; clear hmb
      have HB1R := Lib.hid hb1r; clear hb1r
      have HBS := Lib.hid hbs; clear hbs
      have HO := Lib.hid ho; clear ho
      have HOFF := Lib.hid hoff; clear hoff
      have HM := Lib.hid hm; clear hm
      have T1 := Lib.hid t1; clear t1
      have HBW := Lib.hid hbw; clear hbw
      go_wp2_with fail
      go_fit CCM.out; rintro e w3 ⟨cA, cl, cc, rfl, hc, hb3⟩
      have HB3 := Lib.hid hb3
      clear hb3 p0 p1 p2 p3 p4 cm
      have hs3 := HBS.out.ext HB3.out
      have HC := Lib.hid hc; clear hc
      have HS3 := Lib.hid hs3; clear hs3
      go_wp2_with fail
      go_fit (CB1.out cA cl cc _ HC.out HS3.out); rintro e w4 ⟨rfl, hb4⟩
      have HB4 := Lib.hid hb4
      clear hb4
      have hc4 := HC.out.ext HB4.out
      have hs4 := HS3.out.ext HB4.out
      have HC4 := Lib.hid hc4; clear hc4
      have HS4 := Lib.hid hs4; clear hs4
      go_wp2_with fail
      go_fit (CB2.out cA cl cc _ HC4.out HS4.out); rintro e w5 ⟨rfl, hb5⟩
      have hbz := bel_trans HB3.out (bel_trans HB4.out hb5)
      have hbw5 := bel_trans HBW.out hbz
      have hs5 := HBS.out.ext hbz
      have ho5 := HO.out.bel hbz
      have hm5 := SM.out.ext hbz
      have hll := HSL.out.small
      obtain ⟨v', w6, hrun, hown, hg6, hgb, hat⟩ := appOwnS ho5 hm5 HMB.out (by have := HLB.out; omega) hbw5.size 39
      have hb6 := bel_grown hbw5 hg6 hbw5.size hgb
      have hs6 := hs5.keptM (kept_own hg6) HOFF.out
      have hof6 := Off.app hat hs5 HOFF.out
      clear hb5 hbz hg6 hgb hat
      have HBW5 := Lib.hid hbw5; clear hbw5
      have HS5 := Lib.hid hs5; clear hs5
      have HO5 := Lib.hid ho5; clear ho5
      have HM5 := Lib.hid hm5; clear hm5
      have HRUN := Lib.hid hrun; clear hrun
      have HOWN := Lib.hid hown; clear hown
      have HB6 := Lib.hid hb6; clear hb6
      have HS6 := Lib.hid hs6; clear hs6
      have HOF6 := Lib.hid hof6; clear hof6
      go_wp2_with (at_builtin; refine wpList_append_run rfl _ _ _ rfl _ _ rfl rfl _ _ HRUN.out ?_)
      go_roundw
      case rel => exact ⟨k + 1, _, _, _, (st.1 ++ [m], st.2), by omega, by go_num, rfl, HOWN.out, HS6.out, HOF6.out, by simp; omega, HB6.out, HSTEP.out.symm⟩
      case measure => simp [intOf]; omega
   ·obtain rfl : l = k := by omega
    rw [List.take_of_length_le (by rw [HSL.out.len]; exact Nat.le_refl _)] at hst
    obtain ⟨oA, oc, hv, hos⟩ := ho.sl (by have := HSL.out.small; omega)
    subst hv
    have HO := Lib.hid ho; clear ho
    have HBS := Lib.hid hbs; clear hbs
    have HOFF := Lib.hid hoff; clear hoff
    have HBW := Lib.hid hbw; clear hbw
    have HST := Lib.hid hst; clear hst
    have HOS := Lib.hid hos; clear hos
    go_wp2_with fail
    go_ret3
    exact ⟨_, _, _, _, _, _, rfl, by rw [← HST.out]; exact HOS.out, by rw [← HST.out]; exact HBS.out, bel_trans HB2.out HBW.out⟩
end Go.Proofs.YtdkjanbfheehoaaGreat

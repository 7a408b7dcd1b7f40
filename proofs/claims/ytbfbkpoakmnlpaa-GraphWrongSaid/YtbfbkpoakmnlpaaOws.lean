/- Slices of ints of the call's own that may begin behind a row's head (OwnO); the contract of slices.Insert of one int over them. -/
import Derived.Test.YtbfbkpoakmnlpaaInsi
import Derived.Test.YtbfbkpoakmnlpaaCpt
import Derived.Shelf.Spec.SlicesInsertGrow
namespace Go.Proofs.Ytbfbkpoakmnlpaa
open Go.RowKit Go.Shelf

def OwnO (W : World) (B : Nat) (v : Value) (xs : List Int) : Prop := (v = .slice none 0 0 ∧ xs = []) ∨
  ∃ g o cap cur, v = .slice (some ⟨g, o, none⟩) xs.length cap ∧ B ≤ g ∧ Blk W g 3 cur ∧ xs.length ≤ cap ∧ cap ≤ 9223372036854775807 ∧ o + cap ≤ cur.size ∧ ∀ i x, xs[i]? = some x → cur[o + i]? = some (.int .i64 x)
theorem OwnO.nil (W : World) (B : Nat) : OwnO W B (.slice none 0 0) [] := .inl ⟨rfl, rfl⟩
theorem OwnO.keptS {W W' : World} {B : Nat} {v : Value} {xs : List Int} {S : List Nat} (h : OwnO W B v xs) (hk : Kept S W W') (hS : ∀ k, v.ownBlock = some k → k ∉ S) : OwnO W' B v xs := by
  rcases h with h | ⟨g, o, cap, cur, rfl, h1, h2, h3⟩
  · exact .inl h
  · exact .inr ⟨g, o, cap, cur, rfl, h1, hk.blk h2 (hS g rfl), h3⟩
theorem OwnO.bel {W W' : World} {B : Nat} {v : Value} {xs : List Int} (h : OwnO W B v xs) (hb : Below W.heap.size W W') : OwnO W' B v xs := h.keptS (Kept.of_below hb []) (by simp)
theorem OwnO.lt {W : World} {B : Nat} {v : Value} {xs : List Int} (h : OwnO W B v xs) {k : Nat} (hk : v.ownBlock = some k) : B ≤ k ∧ k < W.heap.size := by
  rcases h with ⟨rfl, -⟩ | ⟨g, o, cap, cur, rfl, h1, h2, h3⟩
  · cases hk
  · have e : g = k := by simpa [Value.ownBlock] using hk
    subst e
    exact ⟨h1, h2.lt⟩
theorem OwnO.sl {W : World} {B : Nat} {v : Value} {xs : List Int} (h : OwnO W B v xs) (hs : xs.length ≤ 17592186044416) (h64 : ∀ x ∈ xs, I64 x) : ∃ A c, v = .slice A xs.length c ∧ SlIs intR W A xs.length c xs := by
  rcases h with ⟨rfl, rfl⟩ | ⟨g, o, cap, cur, rfl, h1, h2, h3, h4, h5, h6⟩
  · exact ⟨none, 0, rfl, SlIs.nil _ _⟩
  · refine ⟨_, cap, rfl, rfl, h3, ⟨h4, hs⟩, fun _ => ⟨_, rfl, h2.lt, fun i x hx => ⟨[.int .i64 x], ⟨rfl, h64 x (List.mem_of_getElem? hx)⟩, fun j u hu => ?_⟩⟩⟩
    match j, hu with
    | 0, hu =>
      simp at hu; subst hu
      rw [add_none]
      simp only [intR, Nat.mul_one, Nat.add_zero]
      rw [h2.cell]; exact h6 i x hx
    | j + 1, hu => simp at hu
/-- s[1:]. -/
theorem OwnO.tail {W : World} {B g o l cap : Nat} {x : Int} {xs : List Int} (h : OwnO W B (.slice (some ⟨g, o, none⟩) l cap) (x :: xs)) (hc : 1 < cap) : OwnO W B (.slice (some ⟨g, o + 1, none⟩) xs.length (cap - 1)) xs := by
  rcases h with ⟨e, -⟩ | ⟨g', o', cap', cur, e, h1, h2, h3, h4, h5, h6⟩
  · cases e
  · cases e
    rw [List.length_cons] at h3
    exact .inr ⟨g, o + 1, cap - 1, cur, rfl, h1, h2, by omega, by omega, by omega, fun i y hy => by
      have := h6 (i + 1) y (by simpa using hy)
      rwa [show o + 1 + i = o + (i + 1) by omega]⟩
theorem OwnO.tail1 {W : World} {B g o l : Nat} {x : Int} {xs : List Int} (h : OwnO W B (.slice (some ⟨g, o, none⟩) l 1) (x :: xs)) : OwnO W B (.slice (some ⟨g, o, none⟩) 0 0) xs ∧ xs = [] := by
  rcases h with ⟨e, -⟩ | ⟨g', o', cap', cur, e, h1, h2, h3, h4, h5, h6⟩
  · cases e
  · cases e
    rw [List.length_cons] at h3
    have hx : xs = [] := List.eq_nil_of_length_eq_zero (by omega)
    subst hx
    exact ⟨.inr ⟨g, o, 0, cur, rfl, h1, h2, Nat.le_refl _, by omega, by omega, fun i y hy => by simp at hy⟩, rfl⟩
def putA : Array Value → Nat → List Value → Array Value
  | cur, _, [] => cur
  | cur, o, v :: r => putA (cur.setIfInBounds o v) (o + 1) r
theorem putA_size : ∀ (vs : List Value) (cur : Array Value) (o : Nat), (putA cur o vs).size = cur.size
  | [], cur, o => rfl
  | v :: r, cur, o => by rw [putA, putA_size r]; simp
theorem putA_out : ∀ (vs : List Value) (cur : Array Value) (o j : Nat), j < o ∨ o + vs.length ≤ j → (putA cur o vs)[j]? = cur[j]?
  | [], cur, o, j, _ => rfl
  | v :: r, cur, o, j, h => by
    rw [putA, putA_out r _ _ j (by simp at h; omega), Array.getElem?_setIfInBounds_ne (by simp at h; omega)]
theorem putA_in : ∀ (vs : List Value) (cur : Array Value) (o j : Nat) (v : Value), vs[j]? = some v → o + j < cur.size → (putA cur o vs)[o + j]? = some v
  | [], cur, o, j, v, h, _ => by simp at h
  | u :: r, cur, o, 0, v, h, hl => by
    have : u = v := by simpa using h
    subst this
    rw [putA, putA_out r _ _ _ (by omega), Nat.add_zero, Array.getElem?_setIfInBounds_self_of_lt (by omega)]
  | u :: r, cur, o, j + 1, v, h, hl => by
    rw [putA, show o + (j + 1) = (o + 1) + j by omega]
    exact putA_in r _ _ j v (by simpa using h) (by simp; omega)
theorem blk_setCells {g : Nat} {t : TypeId} : ∀ (vs : List Value) (o : Nat) {w : World} {cur : Array Value}, Blk w g t cur → Blk (w.setCells g o vs) g t (putA cur o vs)
  | [], _, _, _, h => h
  | v :: r, o, _, _, h => blk_setCells r (o + 1) (h.set_ o v)
theorem kept_setCells {g : Nat} : ∀ (vs : List Value) (o : Nat) (w : World), Kept [g] w (w.setCells g o vs)
  | [], o, w => Kept.refl _ _
  | v :: r, o, w => ((Kept.refl [g] w).set (p := ⟨g, o, none⟩) (.inl (by simp)) v).trans (kept_setCells r (o + 1) _)
theorem kept_setCells_new {S : List Nat} {a : World} {g : Nat} (hg : a.heap.size ≤ g) : ∀ (vs : List Value) (o : Nat) {w : World}, Kept S a w → Kept S a (w.setCells g o vs)
  | [], _, _, h => h
  | v :: r, o, _, h => kept_setCells_new hg r (o + 1) (h.set (p := ⟨g, o, none⟩) (.inr hg) v)
theorem blk_shape {w : World} {g : Nat} {t : TypeId} {cs : Array Value} (h : Blk w g t cs) : w.shape? g = some (t, cs.size) := by
  unfold Blk at h
  simp [World.shape?, h]
set_option maxHeartbeats 4000000 in
theorem insert_any {W : World} {B : Nat} {v : Value} {xs : List Int} (h : OwnO W B v xs) (hB : B ≤ W.heap.size) (k : Nat) (hk : k ≤ xs.length) (y : Int) (q : Nat) (hq : Blk W q 3 #[.int .i64 y]) (hqv : v.ownBlock ≠ some q) (hl : xs.length ≤ 1000000) :
    Calls Try.prog 59 #[v, .int .i64 (k : Int), .slice (some ⟨q, 0, none⟩) 1 1] W fun e w' => ∃ v', e = .returned v' ∧ OwnO w' B v' (xs.take k ++ y :: xs.drop k) ∧ Kept v.ownBlock.toList W w' ∧ ∀ b, v'.ownBlock = some b → v.ownBlock = some b ∨ W.heap.size ≤ b := by
  have hvs : ∀ j u, [Value.int .i64 y][j]? = some u → W.cell? ⟨q, 0 + j, none⟩ = some u := fun j u hu => by
    match j, hu with
    | 0, hu => rw [Nat.zero_add, hq.cell]; simpa using hu
    | j + 1, hu => simp at hu
  have h1v : ∀ u ∈ [Value.int .i64 y], u.oneCell' = true := by simp [Value.oneCell']
  have ez : ((Value.int .i64 0).cells).size = 1 := rfl
  rcases h with ⟨rfl, rfl⟩ | ⟨g, o, cap, cur, rfl, h1, h2, h3, h4, h5, h6⟩
  · obtain rfl : k = 0 := by simpa using hk
    refine (Any2.slices_Insert_int_end_grow (P := Try.prog) (ρ := insertI_ren) { insertI with } none 0 0 q 0 1 1 [] [.int .i64 y] W (by omega) (by omega) (by omega) (by omega) rfl rfl (fun _ => rfl) (fun a e => by cases e) hvs h1v).mono ?_
    rintro e w' ⟨rfl, rfl⟩
    have hg1 := grownCap_ge W (0 + 1) 0 (insertI_ren.t 3)
    have hg2 := grownCap_le_maxLen W (0 + 1) 0 (insertI_ren.t 3) (by unfold maxLen; omega)
    have hb : Blk (W.drew.alloc (.cells (([] ++ [Value.int .i64 y]).toArray ++ Builtin.zeroCells (Value.int .i64 0).cells (grownCap W (0 + 1) 0 (insertI_ren.t 3) - (0 + 1))) (insertI_ren.t 3))) W.heap.size 3 (([] ++ [Value.int .i64 y]).toArray ++ Builtin.zeroCells (Value.int .i64 0).cells (grownCap W (0 + 1) 0 (insertI_ren.t 3) - (0 + 1))) := blk_new rfl _ _
    refine ⟨_, rfl, .inr ⟨W.heap.size, 0, _, _, rfl, hB, hb, hg1, hg2, ?_, fun i x hx => ?_⟩, Kept.of_below (bel_trans (Below.refl _ _).drew (bel_alloc _ _)) _, fun b hb => .inr ?_⟩
    · rw [Array.size_append, size_zeroCells, ez]; simp; omega
    · match i, hx with
      | 0, hx =>
        have : y = x := by simpa using hx
        subst this
        rw [Nat.zero_add, Array.getElem?_append_left (by simp)]; rfl
      | i + 1, hx => simp at hx
    · have e : W.heap.size = b := by simpa [Value.ownBlock] using hb
      omega
  · have hcs : ∀ j u, (xs.map (Value.int .i64))[j]? = some u → W.cell? ⟨g, o + j, none⟩ = some u := fun j u hu => by
      rw [List.getElem?_map, Option.map_eq_some_iff] at hu
      obtain ⟨x, hx, rfl⟩ := hu
      rw [h2.cell]; exact h6 j x hx
    have h1c : ∀ u ∈ xs.map (Value.int .i64), u.oneCell' = true := fun u hu => by
      obtain ⟨x, -, rfl⟩ := List.mem_map.1 hu
      rfl
    have hne : q ≠ g := fun e => hqv (by rw [e]; rfl)
    have hown : (Value.slice (some ⟨g, o, none⟩) xs.length cap).ownBlock.toList = [g] := rfl
    rw [hown]
    have hlen : (xs.take k ++ y :: xs.drop k).length = xs.length + 1 := by simp; omega
    have new_at : ∀ i x, (xs.take k ++ y :: xs.drop k)[i]? = some x → (i < k ∧ xs[i]? = some x) ∨ (i = k ∧ x = y) ∨ (k < i ∧ xs[i - 1]? = some x) := fun i x hx => by
      have htl : (xs.take k).length = k := by rw [List.length_take]; omega
      rcases Nat.lt_trichotomy i k with hi | hi | hi
      · rw [List.getElem?_append_left (by omega), List.getElem?_take, if_pos hi] at hx
        exact .inl ⟨hi, hx⟩
      · subst hi
        rw [List.getElem?_append_right (by omega), htl, Nat.sub_self] at hx
        exact .inr (.inl ⟨rfl, by simpa using hx.symm⟩)
      · rw [List.getElem?_append_right (by omega), htl, show i - k = (i - k - 1) + 1 by omega, List.getElem?_cons_succ, List.getElem?_drop, show k + (i - k - 1) = i - 1 by omega] at hx
        exact .inr (.inr ⟨hi, hx⟩)
    by_cases hroom : xs.length + 1 ≤ cap
    · by_cases hkn : k = xs.length
      · subst hkn
        refine (Any2.slices_Insert_int_end_room (P := Try.prog) (ρ := insertI_ren) { insertI with } g o xs.length cap q 0 1 1 [.int .i64 y] W (by omega) hroom h4 rfl (fun j hj => ?_) (fun j hj => h2.frozen _) hvs h1v).mono ?_
        · rw [h2.cell, Array.getElem?_eq_getElem (by omega)]; rfl
        rintro e w' ⟨rfl, rfl⟩
        refine ⟨_, rfl, .inr ⟨g, o, cap, _, by rw [hlen], h1, blk_setCells _ _ h2, by omega, h4, by rw [putA_size]; exact h5, fun i x hx => ?_⟩, kept_setCells _ _ _, fun b hb => .inl hb⟩
        rcases new_at i x hx with ⟨hi, hx⟩ | ⟨hi, rfl⟩ | ⟨hi, hx⟩
        · rw [putA_out _ _ _ _ (by omega)]; exact h6 i x hx
        · subst hi
          exact putA_in [Value.int .i64 x] cur (o + xs.length) 0 _ rfl (by omega)
        · have := (List.getElem?_eq_some_iff.1 hx).1; omega
      · have hfa := hq.frozen 0
        refine (Any2.slices_Insert_int_shift (P := Try.prog) (ρ := insertI_ren) { insertI with } g o xs.length cap k q 0 1 1 (xs.map (Value.int .i64)) [.int .i64 y] W (by omega) (by omega) hroom h4 hne (by simp) rfl hcs (fun j hj => ?_) (fun j hj => h2.frozen _) hvs h1c h1v _ _ _ _ (blk_shape hq) (blk_shape h2) (by omega) hfa (hq.frozen _)).mono ?_
        · rw [h2.cell, Array.getElem?_eq_getElem (by omega)]; rfl
        rintro e w' ⟨rfl, rfl⟩
        have hb1 := blk_setCells ((xs.map (Value.int .i64)).drop k) (o + (k + 1)) h2.drew
        have hb2 := blk_setCells [Value.int .i64 y] (o + k) hb1
        refine ⟨_, rfl, .inr ⟨g, o, cap, _, by rw [hlen], h1, hb2, by omega, h4, by rw [putA_size, putA_size]; exact h5, fun i x hx => ?_⟩, ((Kept.refl [g] W).drew.trans (kept_setCells _ _ _)).trans (kept_setCells _ _ _), fun b hb => .inl hb⟩
        rcases new_at i x hx with ⟨hi, hx⟩ | ⟨hi, rfl⟩ | ⟨hi, hx⟩
        · rw [putA_out _ _ _ _ (by omega), putA_out _ _ _ _ (by omega)]; exact h6 i x hx
        · subst hi
          exact putA_in [Value.int .i64 x] _ (o + i) 0 _ rfl (by rw [putA_size]; omega)
        · have hxl := (List.getElem?_eq_some_iff.1 hx).1
          rw [putA_out _ _ _ _ (by simp; omega), show o + i = (o + (k + 1)) + (i - (k + 1)) by omega]
          refine putA_in _ cur _ _ _ ?_ (by omega)
          rw [List.getElem?_drop, List.getElem?_map, show k + (i - (k + 1)) = i - 1 by omega, hx]; rfl
    · by_cases hkn : k = xs.length
      · subst hkn
        refine (Any2.slices_Insert_int_end_grow (P := Try.prog) (ρ := insertI_ren) { insertI with } (some ⟨g, o, none⟩) xs.length cap q 0 1 1 (xs.map (Value.int .i64)) [.int .i64 y] W (by omega) h3 (by omega) (by omega) (by simp) rfl (fun e => by cases e) (fun a e j u hu => by cases e; rw [add_none]; exact hcs j u hu) hvs h1v).mono ?_
        rintro e w' ⟨rfl, rfl⟩
        have hg1 := grownCap_ge W (xs.length + 1) cap (insertI_ren.t 3)
        have hg2 := grownCap_le_maxLen W (xs.length + 1) cap (insertI_ren.t 3) (by unfold maxLen; omega)
        generalize grownCap W (xs.length + 1) cap (insertI_ren.t 3) = gc at *
        have hb : Blk (W.drew.alloc (.cells ((xs.map (Value.int .i64) ++ [Value.int .i64 y]).toArray ++ Builtin.zeroCells (Value.int .i64 0).cells (gc - (xs.length + 1))) (insertI_ren.t 3))) W.heap.size 3 _ := blk_new rfl _ _
        refine ⟨_, rfl, .inr ⟨W.heap.size, 0, _, _, by rw [hlen], hB, hb, by omega, hg2, ?_, fun i x hx => ?_⟩, Kept.of_below (bel_trans (Below.refl _ _).drew (bel_alloc _ _)) _, fun b hb => .inr ?_⟩
        · rw [Array.size_append, size_zeroCells, ez]; simp; omega
        · have hi : i < xs.length + 1 := by have := (List.getElem?_eq_some_iff.1 hx).1; omega
          rw [Nat.zero_add, Array.getElem?_append_left (by simp; omega), List.getElem?_toArray]
          rcases new_at i x hx with ⟨hi, hx⟩ | ⟨hi, rfl⟩ | ⟨hi, hx⟩
          · rw [List.getElem?_append_left (by simp; omega), List.getElem?_map, hx]; rfl
          · subst hi
            rw [List.getElem?_append_right (by simp)]; simp
          · omega
        · have e : W.heap.size = b := by simpa [Value.ownBlock] using hb
          omega
      · refine (Any2.slices_Insert_int_grow (P := Try.prog) (ρ := insertI_ren) { insertI with } g o xs.length cap k q 0 1 1 (xs.map (Value.int .i64)) [.int .i64 y] W (by omega) (by omega) h3 (by omega) (by omega) (by simp) rfl hcs hvs h1c h1v).mono ?_
        rintro e w' ⟨rfl, rfl⟩
        have hg1 := grownCap_ge W (xs.length + 1) cap (insertI_ren.t 3)
        have hg2 := grownCap_le_maxLen W (xs.length + 1) cap (insertI_ren.t 3) (by unfold maxLen; omega)
        generalize grownCap W (xs.length + 1) cap (insertI_ren.t 3) = gc at *
        have hb0 : Blk (W.alloc (.cells (((xs.map (Value.int .i64)).take k).toArray ++ Builtin.zeroCells (Value.int .i64 0).cells (xs.length + 1 - k) ++ Builtin.zeroCells (Value.int .i64 0).cells (gc - (xs.length + 1))) (insertI_ren.t 3))) W.heap.size 3 _ := blk_new rfl _ _
        have hsz : (((xs.map (Value.int .i64)).take k).toArray ++ Builtin.zeroCells (Value.int .i64 0).cells (xs.length + 1 - k) ++ Builtin.zeroCells (Value.int .i64 0).cells (gc - (xs.length + 1))).size = gc := by
          rw [Array.size_append, Array.size_append, size_zeroCells, size_zeroCells, ez]; simp; omega
        have hfst : ∀ i x, i < k → xs[i]? = some x → (((xs.map (Value.int .i64)).take k).toArray ++ Builtin.zeroCells (Value.int .i64 0).cells (xs.length + 1 - k) ++ Builtin.zeroCells (Value.int .i64 0).cells (gc - (xs.length + 1)))[i]? = some (.int .i64 x) := fun i x hi hx => by
          rw [Array.append_assoc, Array.getElem?_append_left (by simp; omega), List.getElem?_toArray, List.getElem?_take, if_pos hi, List.getElem?_map, hx]; rfl
        generalize (((xs.map (Value.int .i64)).take k).toArray ++ Builtin.zeroCells (Value.int .i64 0).cells (xs.length + 1 - k) ++ Builtin.zeroCells (Value.int .i64 0).cells (gc - (xs.length + 1))) = cur0 at *
        have hb1 := blk_setCells [Value.int .i64 y] k hb0.drew
        have hb2 := blk_setCells ((xs.map (Value.int .i64)).drop k) (k + 1) hb1.drew
        have hkk : Kept [g] W _ := kept_setCells_new (Nat.le_refl _) ((xs.map (Value.int .i64)).drop k) (k + 1) (kept_setCells_new (Nat.le_refl _) [Value.int .i64 y] k (Kept.of_below (bel_alloc W (.cells cur0 (insertI_ren.t 3))) [g]).drew).drew
        refine ⟨_, rfl, .inr ⟨W.heap.size, 0, _, _, by rw [hlen], hB, hb2, by omega, hg2, by rw [putA_size, putA_size]; omega, fun i x hx => ?_⟩, hkk, fun b hb => .inr ?_⟩
        · rw [Nat.zero_add]
          rcases new_at i x hx with ⟨hi, hx⟩ | ⟨hi, rfl⟩ | ⟨hi, hx⟩
          · rw [putA_out _ _ _ _ (by omega), putA_out _ _ _ _ (by omega)]; exact hfst i x hi hx
          · subst hi
            rw [putA_out _ _ _ _ (by omega)]
            exact putA_in [Value.int .i64 x] _ i 0 _ rfl (by omega)
          · have hxl := (List.getElem?_eq_some_iff.1 hx).1
            rw [show i = (k + 1) + (i - (k + 1)) by omega]
            refine putA_in _ _ _ _ _ ?_ (by rw [putA_size]; omega)
            rw [List.getElem?_drop, List.getElem?_map, show k + (i - (k + 1)) = i - 1 by omega, hx]; rfl
        · have e : W.heap.size = b := by simpa [Value.ownBlock] using hb
          omega
end Go.Proofs.Ytbfbkpoakmnlpaa

/- The example program of chapter 20 (ostlerlaw20.even). -/
import Derived.Test.YtdmcclfagjgcgaaGreatSl1
import Derived.Test.YtdmcclfagjgcgaaGreatG6
namespace Go.Proofs.YtdmcclfagjgcgaaGreat
open Go.RowKit

def evR1 : GRule := ⟨false, [1], false, 0, [-2], []⟩
def evR2 : GRule := ⟨false, [2], false, 0, [-1], []⟩
def evM : GMin := ⟨0, [1, 2], [2, 1]⟩
def evP : GProg := { withP 2 [evR1, evR2] with min := [evM] }
def evO (n : Nat) : List Obj := [.cells #[.int .i64 0, .slice none 0 0, .slice none 0 0, .slice none 0 0, .slice none 0 0] 27,
  .cells #[.int .i64 1] 3, .cells #[.int .i64 (-2)] 3, .cells #[.int .i64 2] 3, .cells #[.int .i64 (-1)] 3,
  .cells #[.bool false, .slice (some ⟨n + 1, 0, none⟩) 1 1, .bool false, .int .i64 0, .slice (some ⟨n + 2, 0, none⟩) 1 1, .slice none 0 0, .bool false, .slice (some ⟨n + 3, 0, none⟩) 1 1, .bool false, .int .i64 0, .slice (some ⟨n + 4, 0, none⟩) 1 1, .slice none 0 0] 37]
theorem i1 (W : World) (g : Nat) (x : Int) (h : Blk W g 3 #[.int .i64 x]) (hx : I64 x) : Ints W (.slice (some ⟨g, 0, none⟩) 1 1) [x] :=
  ints_of (sl_ints [x] h rfl (by simp) (fun y hy => by simp at hy; subst hy; exact hx))
theorem i2 (W : World) (g : Nat) (x y : Int) (h : Blk W g 3 #[.int .i64 x, .int .i64 y]) (hx : I64 x) (hy : I64 y) : Ints W (.slice (some ⟨g, 0, none⟩) 2 2) [x, y] :=
  ints_of (sl_ints [x, y] h rfl (by simp) (fun z hz => by simp at hz; rcases hz with rfl | rfl <;> assumption))
theorem ev_sl' {W : World} {n : Nat} (h : ∀ i cs t, 0 < i → (evO n)[i]? = some (.cells cs t) → Blk W (n + i) t cs) : SlIs ruleR W (some ⟨n + 5, 0, none⟩) 2 2 [evR1, evR2] :=
  sl_rulesAt (h 5 _ _ (by omega) rfl) ⟨rfl, i1 _ _ _ (h 1 _ _ (by omega) rfl) (by simp [I64]), rfl, rfl, by simp [I64, evR1], i1 _ _ _ (h 2 _ _ (by omega) rfl) (by simp [I64]), ints_nil _,
    rfl, i1 _ _ _ (h 3 _ _ (by omega) rfl) (by simp [I64]), rfl, rfl, by simp [I64, evR2], i1 _ _ _ (h 4 _ _ (by omega) rfl) (by simp [I64]), ints_nil _, trivial⟩ rfl (by simp)
theorem ev_sl (w : World) : SlIs ruleR (allocs w (evO w.heap.size)) (some ⟨w.heap.size + 5, 0, none⟩) 2 2 [evR1, evR2] := ev_sl' (n := w.heap.size) fun _ _ _ _ h => allocs_blk _ h

set_option maxRecDepth 100000 in
set_option maxHeartbeats 1000000 in
theorem even_any (w : World) :
    Calls Tryz.prog 70 #[] w fun e w' => ∃ (nA : Option Addr) (nl nc : Nat) (sA : Option Addr) (sl sc : Nat) (rA : Option Addr) (rl rc : Nat) (mA : Option Addr) (ml mc : Nat), e = .returned (.agg #[.int .i64 evP.n, .slice nA nl nc, .slice sA sl sc, .slice rA rl rc, .slice mA ml mc]) ∧ ProgIn w' evP nA nl nc sA sl sc rA rl rc mA ml mc ∧ Below w.heap.size w w' := by
  go_enter Tryz.func70, Tryz.ntmps70
  go_wp2_with fail
  change Calls _ _ _ (allocs w (evO w.heap.size)) _
  go_fit (with20_any _ _ _ [evR1, evR2] 2 _ (ev_sl w) (by omega)); rintro e w1 ⟨nA, nl, nc, rfl, hp, hb1, hn1⟩
  have hx : ∀ i cs t, (evO w.heap.size)[i]? = some (.cells cs t) → Blk w1 (w.heap.size + i) t cs := fun i cs t h => (allocs_blk (w := w) (os := evO w.heap.size) i h).bel hb1
  have hx1 : Blk w1 w.heap.size 27 #[.int .i64 0, .slice none 0 0, .slice none 0 0, .slice none 0 0, .slice none 0 0] := hx 0 _ _ rfl
  have hlt : w.heap.size < w1.heap.size := hx1.lt
  have HB1 := Lib.hid (bel_trans (allocs_bel _ _) hb1)
  have hn1 : ∀ ad, nA = some ad → w.heap.size < ad.block := by
    intro ad e
    have h1 := hn1 ad e
    have h6 : (allocs w (evO w.heap.size)).heap.size = w.heap.size + 6 := by simp [allocs, evO]
    omega
  clear hb1
  have HX1 := Lib.hid hx1; clear hx1
  have HP := Lib.hid hp; clear hp
  have HX := Lib.hid hx; clear hx
  have HN1 := Lib.hid hn1; clear hn1
  go_wp2_with (refine wpList_store_row (by rfl) 27 _ _ (by rfl) w.heap.size #[.int .i64 2, .slice nA nl nc, .slice none 0 0, .slice (some ⟨w.heap.size + 1 + 1 + 1 + 1 + 1, 0, none⟩) 2 2, .slice (some ⟨w1.heap.size + 1 + 1 + 1, 0, none⟩) 1 1] (by rfl) (by rfl) 27 _ ((((HX1.out.alloc _).alloc _).alloc _).alloc _) info_prog (by rfl) (by simp [Value.oneCell']) ?_)
  have hbe : Below w1.heap.size w1 ((((w1.alloc (.cells #[.int .i64 2, .slice nA nl nc, .slice none 0 0, .slice (some ⟨w.heap.size + 1 + 1 + 1 + 1 + 1, 0, none⟩) 2 2, .slice (some ⟨w1.heap.size + 1 + 1 + 1, 0, none⟩) 1 1] 27)).alloc (.cells #[.int .i64 1, .int .i64 2] 3)).alloc (.cells #[.int .i64 2, .int .i64 1] 3)).alloc (.cells #[.int .i64 0, .slice (some ⟨w1.heap.size + 1, 0, none⟩) 2 2, .slice (some ⟨w1.heap.size + 1 + 1, 0, none⟩) 2 2] 50)) := bel_trans (bel_alloc _ _) (bel_trans (bel_alloc _ _) (bel_trans (bel_alloc _ _) (bel_alloc _ _)))
  have hy1 : Blk ((((w1.alloc (.cells #[.int .i64 2, .slice nA nl nc, .slice none 0 0, .slice (some ⟨w.heap.size + 1 + 1 + 1 + 1 + 1, 0, none⟩) 2 2, .slice (some ⟨w1.heap.size + 1 + 1 + 1, 0, none⟩) 1 1] 27)).alloc (.cells #[.int .i64 1, .int .i64 2] 3)).alloc (.cells #[.int .i64 2, .int .i64 1] 3)).alloc (.cells #[.int .i64 0, .slice (some ⟨w1.heap.size + 1, 0, none⟩) 2 2, .slice (some ⟨w1.heap.size + 1 + 1, 0, none⟩) 2 2] 50)) (w1.heap.size + 1) 3 #[.int .i64 1, .int .i64 2] := ((blk_new (by simp) _ _).alloc _).alloc _
  have hy2 : Blk ((((w1.alloc (.cells #[.int .i64 2, .slice nA nl nc, .slice none 0 0, .slice (some ⟨w.heap.size + 1 + 1 + 1 + 1 + 1, 0, none⟩) 2 2, .slice (some ⟨w1.heap.size + 1 + 1 + 1, 0, none⟩) 1 1] 27)).alloc (.cells #[.int .i64 1, .int .i64 2] 3)).alloc (.cells #[.int .i64 2, .int .i64 1] 3)).alloc (.cells #[.int .i64 0, .slice (some ⟨w1.heap.size + 1, 0, none⟩) 2 2, .slice (some ⟨w1.heap.size + 1 + 1, 0, none⟩) 2 2] 50)) (w1.heap.size + 1 + 1) 3 #[.int .i64 2, .int .i64 1] := (blk_new (by simp) _ _).alloc _
  have hy3 : Blk ((((w1.alloc (.cells #[.int .i64 2, .slice nA nl nc, .slice none 0 0, .slice (some ⟨w.heap.size + 1 + 1 + 1 + 1 + 1, 0, none⟩) 2 2, .slice (some ⟨w1.heap.size + 1 + 1 + 1, 0, none⟩) 1 1] 27)).alloc (.cells #[.int .i64 1, .int .i64 2] 3)).alloc (.cells #[.int .i64 2, .int .i64 1] 3)).alloc (.cells #[.int .i64 0, .slice (some ⟨w1.heap.size + 1, 0, none⟩) 2 2, .slice (some ⟨w1.heap.size + 1 + 1, 0, none⟩) 2 2] 50)) (w1.heap.size + 1 + 1 + 1) 50 #[.int .i64 0, .slice (some ⟨w1.heap.size + 1, 0, none⟩) 2 2, .slice (some ⟨w1.heap.size + 1 + 1, 0, none⟩) 2 2] := blk_new (by simp) _ _
  generalize ((((w1.alloc (.cells #[.int .i64 2, .slice nA nl nc, .slice none 0 0, .slice (some ⟨w.heap.size + 1 + 1 + 1 + 1 + 1, 0, none⟩) 2 2, .slice (some ⟨w1.heap.size + 1 + 1 + 1, 0, none⟩) 1 1] 27)).alloc (.cells #[.int .i64 1, .int .i64 2] 3)).alloc (.cells #[.int .i64 2, .int .i64 1] 3)).alloc (.cells #[.int .i64 0, .slice (some ⟨w1.heap.size + 1, 0, none⟩) 2 2, .slice (some ⟨w1.heap.size + 1 + 1, 0, none⟩) 2 2] 50)) = W4 at *
  have hz := HX1.out.bel hbe
  have hk : Kept [w.heap.size] W4 (W4.setRow w.heap.size #[.int .i64 2, .slice nA nl nc, .slice none 0 0, .slice (some ⟨w.heap.size + 1 + 1 + 1 + 1 + 1, 0, none⟩) 2 2, .slice (some ⟨w1.heap.size + 1 + 1 + 1, 0, none⟩) 1 1]) := (Kept.refl _ _).row (.inl (by simp)) _
  refine bodyPost_ret (results_cell_row rfl _ _ w.heap.size 27 _ (0, 0) _ rfl (hz.row #[.int .i64 2, .slice nA nl nc, .slice none 0 0, .slice (some ⟨w.heap.size + 1 + 1 + 1 + 1 + 1, 0, none⟩) 2 2, .slice (some ⟨w1.heap.size + 1 + 1 + 1, 0, none⟩) 1 1]) Tryz.underlying27 rfl (by kernel_rfl)) rfl ?_
  have hy1' := hk.blk hy1 (by simp; omega)
  have hy2' := hk.blk hy2 (by simp; omega)
  have hy3' := hk.blk hy3 (by simp; omega)
  refine ⟨nA, nl, nc, none, 0, 0, _, 2, 2, _, 1, 1, rfl, ⟨by simp [evP, withP, I64], (HP.out.names.ext hbe).keptR hk (fun _ ad e => by have := HN1.out ad e; simp; omega) (fun _ _ _ h => h), SlIs.nil _ _, ?_, ?_⟩, ?_⟩
  · exact ev_sl' (n := w.heap.size) fun i cs t h0 h => hk.blk ((HX.out i cs t h).bel hbe) (by simp; omega)
  · refine sl_of_cells hy3' rfl (by simp) (fun i x hx => ?_)
    match i, hx with
    | 0, hx =>
      have hx' : evM = x := Option.some.inj hx
      subst hx'
      refine ⟨_, ⟨_, _, rfl, by simp [evM, I64], i2 _ _ _ _ hy1' (by simp [I64]) (by simp [I64]), i2 _ _ _ _ hy2' (by simp [I64]) (by simp [I64])⟩, fun j u hu => ?_⟩
      match j, hu with
      | 0, hu => exact hu
      | 1, hu => exact hu
      | 2, hu => exact hu
      | j + 3, hu => simp at hu
    | i + 1, hx => simp [evP] at hx
  · exact Kept.below (HB1.out.trans (hbe.mono (by omega))) hk (by have := hbe.size; omega) (by simp)
end Go.Proofs.YtdmcclfagjgcgaaGreat

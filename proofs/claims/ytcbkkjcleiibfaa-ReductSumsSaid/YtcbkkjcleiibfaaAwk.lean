/- The examples of chapter 19 stand (ostlerlaw19.awake). -/
import Derived.Test.YtcbkkjcleiibfaaRdc
import Derived.Test.YtcbkkjcleiibfaaExa
import Derived.Test.YtcbkkjcleiibfaaRd6
namespace Go.Proofs.Ytcbkkjcleiibfaa
open Go.RowKit

def exA : List GRule := [⟨false, [1], false, 0, [], []⟩, ⟨false, [3], false, 0, [1], []⟩, ⟨false, [4], true, 2, [3], [2]⟩]
def exB : List GRule := [⟨false, [2], false, 0, [], []⟩, ⟨false, [4], true, 3, [3], [2]⟩, ⟨false, [], false, 0, [4], []⟩]
theorem ex_c1 : checkE exP [1, 3, 4] = 0 := by kernel_rfl
theorem ex_c2 : checkE exP [2] = 0 := by kernel_rfl
theorem ex_c3 : checkE exP [] = 0 := by kernel_rfl
theorem ex_c4 : checkE exP [2, 2] = 2 := by kernel_rfl
theorem ex_m : modelB exP [1, 3, 4] = true := by kernel_rfl
theorem ex_b : brokenI exP [] = 0 := by kernel_rfl
theorem ex_r1 : reductL exP.rules [1, 3, 4] = exA := by kernel_rfl
theorem ex_r2 : reductL exP.rules [2] = exB := by kernel_rfl
theorem ex_d : defB (4 : Nat) exA = true := by kernel_rfl
theorem ex_l : leastL exA 4 = [1, 3, 4] := by kernel_rfl
theorem ex_o : roundsL exA 4 = [1, 0, 2, 3] := by kernel_rfl
def exAO (n : Nat) : List Obj := [.cells #[.int .i64 (1)] 3,
  .cells #[.int .i64 (3)] 3,
  .cells #[.int .i64 (1)] 3,
  .cells #[.int .i64 (4)] 3,
  .cells #[.int .i64 (3)] 3,
  .cells #[.int .i64 (2)] 3,
  .cells #[.bool false, .slice (some ⟨n + 0, 0, none⟩) 1 1, .bool false, .int .i64 0, .slice none 0 0, .slice none 0 0, .bool false, .slice (some ⟨n + 1, 0, none⟩) 1 1, .bool false, .int .i64 0, .slice (some ⟨n + 2, 0, none⟩) 1 1, .slice none 0 0, .bool false, .slice (some ⟨n + 3, 0, none⟩) 1 1, .bool true, .int .i64 2, .slice (some ⟨n + 4, 0, none⟩) 1 1, .slice (some ⟨n + 5, 0, none⟩) 1 1] 26]
theorem exA_sl (w : World) : SlIs ruleR (allocs w (exAO w.heap.size)) (some ⟨w.heap.size + 1 + 1 + 1 + 1 + 1 + 1, 0, none⟩) 3 3 exA := by
  refine sl_of_cells (allocs_blk (os := exAO w.heap.size) 6 rfl) rfl (by omega) (fun i x hx => ?_)
  match i, hx with
  | 0, hx => have hx' : _ = x := Option.some.inj hx; subst hx'; exact ⟨_, ⟨_, _, _, rfl, ⟨_, _, _, rfl, sl_ints [1] (allocs_blk 0 rfl) rfl (by simp) (by simp [I64])⟩, by simp [I64], ⟨none, 0, 0, rfl, SlIs.nil _ _⟩, ⟨none, 0, 0, rfl, SlIs.nil _ _⟩⟩, fun j u hu => by
      match j, hu with
      | 0, hu => exact hu
      | 1, hu => exact hu
      | 2, hu => exact hu
      | 3, hu => exact hu
      | 4, hu => exact hu
      | 5, hu => exact hu
      | j + 6, hu => simp at hu⟩
  | 1, hx => have hx' : _ = x := Option.some.inj hx; subst hx'; exact ⟨_, ⟨_, _, _, rfl, ⟨_, _, _, rfl, sl_ints [3] (allocs_blk 1 rfl) rfl (by simp) (by simp [I64])⟩, by simp [I64], ⟨_, _, _, rfl, sl_ints [1] (allocs_blk 2 rfl) rfl (by simp) (by simp [I64])⟩, ⟨none, 0, 0, rfl, SlIs.nil _ _⟩⟩, fun j u hu => by
      match j, hu with
      | 0, hu => exact hu
      | 1, hu => exact hu
      | 2, hu => exact hu
      | 3, hu => exact hu
      | 4, hu => exact hu
      | 5, hu => exact hu
      | j + 6, hu => simp at hu⟩
  | 2, hx => have hx' : _ = x := Option.some.inj hx; subst hx'; exact ⟨_, ⟨_, _, _, rfl, ⟨_, _, _, rfl, sl_ints [4] (allocs_blk 3 rfl) rfl (by simp) (by simp [I64])⟩, by simp [I64], ⟨_, _, _, rfl, sl_ints [3] (allocs_blk 4 rfl) rfl (by simp) (by simp [I64])⟩, ⟨_, _, _, rfl, sl_ints [2] (allocs_blk 5 rfl) rfl (by simp) (by simp [I64])⟩⟩, fun j u hu => by
      match j, hu with
      | 0, hu => exact hu
      | 1, hu => exact hu
      | 2, hu => exact hu
      | 3, hu => exact hu
      | 4, hu => exact hu
      | 5, hu => exact hu
      | j + 6, hu => simp at hu⟩
  | i + 3, hx => simp [exA] at hx
def exBO (n : Nat) : List Obj := [.cells #[.int .i64 (2)] 3,
  .cells #[.int .i64 (4)] 3,
  .cells #[.int .i64 (3)] 3,
  .cells #[.int .i64 (2)] 3,
  .cells #[.int .i64 (4)] 3,
  .cells #[.bool false, .slice (some ⟨n + 0, 0, none⟩) 1 1, .bool false, .int .i64 0, .slice none 0 0, .slice none 0 0, .bool false, .slice (some ⟨n + 1, 0, none⟩) 1 1, .bool true, .int .i64 3, .slice (some ⟨n + 2, 0, none⟩) 1 1, .slice (some ⟨n + 3, 0, none⟩) 1 1, .bool false, .slice none 0 0, .bool false, .int .i64 0, .slice (some ⟨n + 4, 0, none⟩) 1 1, .slice none 0 0] 26]
theorem exB_sl (w : World) : SlIs ruleR (allocs w (exBO w.heap.size)) (some ⟨w.heap.size + 1 + 1 + 1 + 1 + 1, 0, none⟩) 3 3 exB := by
  refine sl_of_cells (allocs_blk (os := exBO w.heap.size) 5 rfl) rfl (by omega) (fun i x hx => ?_)
  match i, hx with
  | 0, hx => have hx' : _ = x := Option.some.inj hx; subst hx'; exact ⟨_, ⟨_, _, _, rfl, ⟨_, _, _, rfl, sl_ints [2] (allocs_blk 0 rfl) rfl (by simp) (by simp [I64])⟩, by simp [I64], ⟨none, 0, 0, rfl, SlIs.nil _ _⟩, ⟨none, 0, 0, rfl, SlIs.nil _ _⟩⟩, fun j u hu => by
      match j, hu with
      | 0, hu => exact hu
      | 1, hu => exact hu
      | 2, hu => exact hu
      | 3, hu => exact hu
      | 4, hu => exact hu
      | 5, hu => exact hu
      | j + 6, hu => simp at hu⟩
  | 1, hx => have hx' : _ = x := Option.some.inj hx; subst hx'; exact ⟨_, ⟨_, _, _, rfl, ⟨_, _, _, rfl, sl_ints [4] (allocs_blk 1 rfl) rfl (by simp) (by simp [I64])⟩, by simp [I64], ⟨_, _, _, rfl, sl_ints [3] (allocs_blk 2 rfl) rfl (by simp) (by simp [I64])⟩, ⟨_, _, _, rfl, sl_ints [2] (allocs_blk 3 rfl) rfl (by simp) (by simp [I64])⟩⟩, fun j u hu => by
      match j, hu with
      | 0, hu => exact hu
      | 1, hu => exact hu
      | 2, hu => exact hu
      | 3, hu => exact hu
      | 4, hu => exact hu
      | 5, hu => exact hu
      | j + 6, hu => simp at hu⟩
  | 2, hx => have hx' : _ = x := Option.some.inj hx; subst hx'; exact ⟨_, ⟨_, _, _, rfl, ⟨none, 0, 0, rfl, SlIs.nil _ _⟩, by simp [I64], ⟨_, _, _, rfl, sl_ints [4] (allocs_blk 4 rfl) rfl (by simp) (by simp [I64])⟩, ⟨none, 0, 0, rfl, SlIs.nil _ _⟩⟩, fun j u hu => by
      match j, hu with
      | 0, hu => exact hu
      | 1, hu => exact hu
      | 2, hu => exact hu
      | 3, hu => exact hu
      | 4, hu => exact hu
      | 5, hu => exact hu
      | j + 6, hu => simp at hu⟩
  | i + 3, hx => simp [exB] at hx
theorem aw_models1 (nA : Option Addr) (nl nc : Nat) (sA : Option Addr) (sl sc : Nat) (rA : Option Addr) (rl rc : Nat) (mA : Option Addr) (ml mc : Nat) (xA : Option Addr) (xl xc : Nat) (w : World) (hp : ProgIn w exP nA nl nc sA sl sc rA rl rc mA ml mc) (hm : SlIs intR w xA xl xc [1, 3, 4]) : Calls Try.prog 21 #[.agg #[.int .i64 exP.n, .slice nA nl nc, .slice sA sl sc, .slice rA rl rc, .slice mA ml mc], .slice xA xl xc] w fun e w' => e = .returned (.tuple #[.bool true, .int .i64 0]) ∧ Below w.heap.size w w' :=
  (models_any exP _ _ _ _ _ _ _ _ _ _ _ _ _ _ _ [1, 3, 4] w hp hm).mono fun e w' ⟨h1, h2⟩ => ⟨by rw [h1, ex_c1, ex_m]; rfl, h2⟩
theorem aw_models2 (nA : Option Addr) (nl nc : Nat) (sA : Option Addr) (sl sc : Nat) (rA : Option Addr) (rl rc : Nat) (mA : Option Addr) (ml mc : Nat) (xA : Option Addr) (xl xc : Nat) (w : World) (hp : ProgIn w exP nA nl nc sA sl sc rA rl rc mA ml mc) (hm : SlIs intR w xA xl xc [2, 2]) : Calls Try.prog 21 #[.agg #[.int .i64 exP.n, .slice nA nl nc, .slice sA sl sc, .slice rA rl rc, .slice mA ml mc], .slice xA xl xc] w fun e w' => e = .returned (.tuple #[.bool false, .int .i64 2]) ∧ Below w.heap.size w w' :=
  (models_any exP _ _ _ _ _ _ _ _ _ _ _ _ _ _ _ [2, 2] w hp hm).mono fun e w' ⟨h1, h2⟩ => ⟨by rw [h1, ex_c4]; rfl, h2⟩
theorem aw_broken (nA : Option Addr) (nl nc : Nat) (sA : Option Addr) (sl sc : Nat) (rA : Option Addr) (rl rc : Nat) (mA : Option Addr) (ml mc : Nat) (xA : Option Addr) (xl xc : Nat) (w : World) (hp : ProgIn w exP nA nl nc sA sl sc rA rl rc mA ml mc) (hm : SlIs intR w xA xl xc []) : Calls Try.prog 22 #[.agg #[.int .i64 exP.n, .slice nA nl nc, .slice sA sl sc, .slice rA rl rc, .slice mA ml mc], .slice xA xl xc] w fun e w' => e = .returned (.tuple #[.int .i64 0, .int .i64 0]) ∧ Below w.heap.size w w' :=
  (broken_any exP _ _ _ _ _ _ _ _ _ _ _ _ _ _ _ [] w hp hm).mono fun e w' ⟨h1, h2⟩ => ⟨by rw [h1, ex_c3, ex_b]; rfl, h2⟩
theorem slx (w : World) (xs : List Int) (n g : Nat) (hg : w.heap.size = g) (hn : n = xs.length) (hx : ∀ x ∈ xs, I64 x) (hs : n ≤ 17592186044416) : SlIs intR (w.alloc (.cells (xs.map (Value.int .i64)).toArray 3)) (some ⟨g, 0, none⟩) n n xs :=
  sl_ints xs (blk_new hg _ _) hn hs hx
theorem pcells {W : World} {b : Nat} {v0 v1 v2 v3 v4 : Value} (h : Blk W b 36 #[v0, v1, v2, v3, v4]) : W.cell? ⟨b, 0, none⟩ = some v0 ∧ W.cell? ⟨b, 1, none⟩ = some v1 ∧ W.cell? ⟨b, 2, none⟩ = some v2 ∧ W.cell? ⟨b, 3, none⟩ = some v3 ∧ W.cell? ⟨b, 4, none⟩ = some v4 ∧ b < W.heap.size := ⟨h.cell 0, h.cell 1, h.cell 2, h.cell 3, h.cell 4, h.lt⟩

set_option maxRecDepth 100000 in
set_option maxHeartbeats 4000000 in
theorem awake_any (w : World) : Calls Try.prog 9 #[] w fun e w' => e = .returned (.bool true) ∧ Below w.heap.size w w' := by
  go_enter Try.func9, Try.ntmps9
  go_wp2_with fail
  go_fit (example_any _); rintro e w1 ⟨nA, nl, nc, sA, sl, sc, rA, rl, rc, mA, ml, mc, rfl, hp, hb1⟩
  have HP := Lib.hid hp; clear hp
  have HB1 := Lib.hid hb1; clear hb1
  go_wp2_with fail
  go_fit (aw_models1 _ _ _ _ _ _ _ _ _ _ _ _ _ _ _ _ (HP.out.ext (bel_alloc2 _ _ _)) (slx _ [1, 3, 4] 3 _ (by simp) rfl (by simp [I64]) (by omega))); rintro e w2 ⟨rfl, hb2⟩
  have hx2 := ((Blk.new w1 36 #[.int .i64 exP.n, .slice nA nl nc, .slice sA sl sc, .slice rA rl rc, .slice mA ml mc]).alloc _).bel hb2
  obtain ⟨p0, p1, p2, p3, p4, p5⟩ := pcells hx2
  have hp2 := HP.out.ext (bel_trans (bel_alloc2 _ _ _) hb2)
  have HB2 := Lib.hid (bel_trans HB1.out (bel_trans (bel_alloc2 _ _ _) hb2))
  clear hb2
  have HX2 := Lib.hid hx2; clear hx2
  have HP2 := Lib.hid hp2; clear hp2
  go_wp2_with fail
  go_fit (reduct_any exP _ _ _ _ _ _ _ _ _ _ _ _ _ _ _ [1, 3, 4] _ (HP2.out.ext (bel_alloc _ _)) (slx _ [1, 3, 4] 3 _ (by simp) rfl (by simp [I64]) (by omega)) ex_c1); rintro e w3 ⟨aA, al, ac, rfl, ha, hb3⟩
  have hx3 := (HX2.out.alloc _).bel hb3
  clear p0 p1 p2 p3 p4 p5
  obtain ⟨p0, p1, p2, p3, p4, p5⟩ := pcells hx3
  have hp3 := HP2.out.ext (bel_trans (bel_alloc _ _) hb3)
  have HB3 := Lib.hid (bel_trans HB2.out (bel_trans (bel_alloc _ _) hb3))
  clear hb3
  rw [ex_r1] at ha
  have HX3 := Lib.hid hx3; clear hx3
  have HP3 := Lib.hid hp3; clear hp3
  have HA := Lib.hid ha; clear ha
  go_wp2_with fail
  go_fit (least_any aA al ac exA 4 _ HA.out ex_d); rintro e w4 ⟨lA, ll, lc, rfl, hl, hb4⟩
  rw [ex_l] at hl
  have ha4 := HA.out.ext hb4
  have hx4 := HX3.out.bel hb4
  have hp4 := HP3.out.ext hb4
  have HB4 := Lib.hid (bel_trans HB3.out hb4)
  clear hb4 p0 p1 p2 p3 p4 p5
  have HL := Lib.hid hl; clear hl
  have HA4 := Lib.hid ha4; clear ha4
  have HX4 := Lib.hid hx4; clear hx4
  have HP4 := Lib.hid hp4; clear hp4
  go_wp2_with fail
  go_fit (rounds_any aA al ac exA 4 _ HA4.out ex_d); rintro e w5 ⟨oA, ol, oc, rfl, ho, hb5⟩
  rw [ex_o] at ho
  have ha5 := HA4.out.ext hb5
  have hl5 := HL.out.ext hb5
  have hx5 := HX4.out.bel hb5
  obtain ⟨p0, p1, p2, p3, p4, p5⟩ := pcells hx5
  have hp5 := HP4.out.ext hb5
  have HB5 := Lib.hid (bel_trans HB4.out hb5)
  clear hb5
  have HO := Lib.hid ho; clear ho
  have HL5 := Lib.hid hl5; clear hl5
  have HA5 := Lib.hid ha5; clear ha5
  have HX5 := Lib.hid hx5; clear hx5
  have HP5 := Lib.hid hp5; clear hp5
  go_wp2_with fail
  go_fit (reduct_any exP _ _ _ _ _ _ _ _ _ _ _ _ _ _ _ [2] _ (HP5.out.ext (bel_alloc _ _)) (slx _ [2] 1 _ (by simp) rfl (by simp [I64]) (by omega)) ex_c2); rintro e w6 ⟨bA, bl, bc, rfl, hbb, hb6⟩
  rw [ex_r2] at hbb
  have hb6' := bel_trans (bel_alloc _ _) hb6
  have ha6 := HA5.out.ext hb6'
  have hl6 := HL5.out.ext hb6'
  have ho6 := HO.out.ext hb6'
  have hx6 := HX5.out.bel hb6'
  clear p0 p1 p2 p3 p4 p5
  obtain ⟨p0, p1, p2, p3, p4, p5⟩ := pcells hx6
  have hp6 := HP5.out.ext hb6'
  have HB6 := Lib.hid (bel_trans HB5.out hb6')
  clear hb6 hb6'
  have HBB := Lib.hid hbb; clear hbb
  have HO6 := Lib.hid ho6; clear ho6
  have HL6 := Lib.hid hl6; clear hl6
  have HA6 := Lib.hid ha6; clear ha6
  have HX6 := Lib.hid hx6; clear hx6
  have HP6 := Lib.hid hp6; clear hp6
  go_wp2_with fail
  go_fit (aw_broken _ _ _ _ _ _ _ _ _ _ _ _ none 0 0 _ HP6.out (SlIs.nil _ _)); rintro e w7 ⟨rfl, hb7⟩
  have ha7 := HA6.out.ext hb7
  have hl7 := HL6.out.ext hb7
  have ho7 := HO6.out.ext hb7
  have hbb7 := HBB.out.ext hb7
  have hx7 := HX6.out.bel hb7
  clear p0 p1 p2 p3 p4 p5
  obtain ⟨p0, p1, p2, p3, p4, p5⟩ := pcells hx7
  have hp7 := HP6.out.ext hb7
  have HB7 := Lib.hid (bel_trans HB6.out hb7)
  clear hb7
  have HBB7 := Lib.hid hbb7; clear hbb7
  have HO7 := Lib.hid ho7; clear ho7
  have HL7 := Lib.hid hl7; clear hl7
  have HA7 := Lib.hid ha7; clear ha7
  have HX7 := Lib.hid hx7; clear hx7
  have HP7 := Lib.hid hp7; clear hp7
  go_wp2_with fail
  go_fit (aw_models2 _ _ _ _ _ _ _ _ _ _ _ _ _ _ _ _ (HP7.out.ext (bel_alloc _ _)) (slx _ [2, 2] 2 _ (by simp) rfl (by simp [I64]) (by omega))); rintro e w8 ⟨rfl, hb8⟩
  have hb8' := bel_trans (bel_alloc _ _) hb8
  have ha8 := HA7.out.ext hb8'
  have hl8 := HL7.out.ext hb8'
  have ho8 := HO7.out.ext hb8'
  have hbb8 := HBB7.out.ext hb8'
  clear p0 p1 p2 p3 p4 p5
  have HB8 := Lib.hid (bel_trans HB7.out hb8')
  clear hb8 hb8'
  have HBB8 := Lib.hid hbb8; clear hbb8
  have HO8 := Lib.hid ho8; clear ho8
  have HL8 := Lib.hid hl8; clear hl8
  have HA8 := Lib.hid ha8; clear ha8
  go_wp2_with fail
  go_fit (lawInts_any _ _ _ _ _ _ [1, 3, 4] [1, 3, 4] _ (HL8.out.ext (bel_alloc _ _)) (slx _ [1, 3, 4] 3 _ (by simp) rfl (by simp [I64]) (by omega))); rintro e w9 ⟨rfl, hb9⟩
  rw [show decide (([1, 3, 4] : List Int) = [1, 3, 4]) = true from rfl]
  have hb9' := bel_trans (bel_alloc _ _) hb9
  have ha9 := HA8.out.ext hb9'
  have ho9 := HO8.out.ext hb9'
  have hbb9 := HBB8.out.ext hb9'
  have HB9 := Lib.hid (bel_trans HB8.out hb9')
  clear hb9 hb9'
  have HBB9 := Lib.hid hbb9; clear hbb9
  have HO9 := Lib.hid ho9; clear ho9
  have HA9 := Lib.hid ha9; clear ha9
  go_wp2_with fail
  go_fit (lawInts_any _ _ _ _ _ _ [1, 0, 2, 3] [1, 0, 2, 3] _ (HO9.out.ext (bel_alloc _ _)) (slx _ [1, 0, 2, 3] 4 _ (by simp) rfl (by simp [I64]) (by omega))); rintro e w10 ⟨rfl, hb10⟩
  rw [show decide (([1, 0, 2, 3] : List Int) = [1, 0, 2, 3]) = true from rfl]
  have hb10' := bel_trans (bel_alloc _ _) hb10
  have ha10 := HA9.out.ext hb10'
  have hbb10 := HBB9.out.ext hb10'
  have HB10 := Lib.hid (bel_trans HB9.out hb10')
  clear hb10 hb10'
  have HBB10 := Lib.hid hbb10; clear hbb10
  have HA10 := Lib.hid ha10; clear ha10
  go_wp2_with fail
  change Calls _ _ _ (allocs w10 (exAO w10.heap.size)) _
  go_fit (rules_any _ _ _ _ _ _ exA exA _ (HA10.out.ext (allocs_bel _ _)) (exA_sl w10)); rintro e w11 ⟨rfl, hb11⟩
  rw [show decide (exA = exA) = true from by simp]
  have hb11' := bel_trans (allocs_bel _ _) hb11
  have hbb11 := HBB10.out.ext hb11'
  have HB11 := Lib.hid (bel_trans HB10.out hb11')
  clear hb11 hb11'
  have HBB11 := Lib.hid hbb11; clear hbb11
  go_wp2_with fail
  change Calls _ _ _ (allocs w11 (exBO w11.heap.size)) _
  go_fit (rules_any _ _ _ _ _ _ exB exB _ (HBB11.out.ext (allocs_bel _ _)) (exB_sl w11)); rintro e w12 ⟨rfl, hb12⟩
  rw [show decide (exB = exB) = true from by simp]
  have HB12 := Lib.hid (bel_trans HB11.out (bel_trans (allocs_bel _ _) hb12))
  clear hb12
  go_wp2_with fail
  go_ret
  exact ⟨rfl, HB12.out⟩
end Go.Proofs.Ytcbkkjcleiibfaa

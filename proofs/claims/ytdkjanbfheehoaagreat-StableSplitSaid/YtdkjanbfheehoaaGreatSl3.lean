/- The examples of chapter 20 stand (ostlerlaw20.awake). Printed by mkaw20.py. -/
import Derived.Test.YtdkjanbfheehoaaGreatGK
import Derived.Test.YtdkjanbfheehoaaGreatG6
namespace Go.Proofs.YtdkjanbfheehoaaGreat
open Go.RowKit

theorem has_true (p : GProg) (nA : Option Addr) (nl nc : Nat) (sA : Option Addr) (sl sc : Nat) (rA : Option Addr) (rl rc : Nat) (mA : Option Addr) (ml mc : Nat) (xA : Option Addr) (xl xc : Nat) (want : List (List Int)) (w : World) (hp : ProgIn w p nA nl nc sA sl sc rA rl rc mA ml mc) (hx : SlIs (slR intR) w xA xl xc want) (hv : validE p = 0) (h6 : p.n ≤ 6) (hf : p.rules.length ≤ 16) (ha : allL p = want) :
    Calls Tryz.prog 27 #[.agg #[.int .i64 p.n, .slice nA nl nc, .slice sA sl sc, .slice rA rl rc, .slice mA ml mc], .slice xA xl xc] w fun e w' => e = .returned (.bool true) ∧ Below w.heap.size w w' :=
  (has_any p nA nl nc sA sl sc rA rl rc mA ml mc xA xl xc want w hp hx hv ⟨validE_is hv, valid_n hv, by omega, by omega⟩).mono fun e w' ⟨h1, h2⟩ => ⟨by rw [h1, ha]; simp, h2⟩
/-- A rule in a box, with what it refers to. -/
def RBox (W : World) (g : Nat) (hv bv wv : Value) (r : GRule) : Prop := Blk W g 32 #[.bool r.choice, hv, .bool r.sum, .int .i64 r.bound, bv, wv] ∧ Ints W hv r.head ∧ Ints W bv r.body ∧ Ints W wv r.w
theorem RBox.bel {W W' : World} {g : Nat} {hv bv wv : Value} {r : GRule} (h : RBox W g hv bv wv r) (hb : Below W.heap.size W W') : RBox W' g hv bv wv r := ⟨h.1.bel hb, (slR intR).ext h.2.1 hb, (slR intR).ext h.2.2.1 hb, (slR intR).ext h.2.2.2 hb⟩
theorem rcells {W : World} {g : Nat} {v0 v1 v2 v3 v4 v5 : Value} (h : Blk W g 32 #[v0, v1, v2, v3, v4, v5]) : W.cell? ⟨g, 0, none⟩ = some v0 ∧ W.cell? ⟨g, 1, none⟩ = some v1 ∧ W.cell? ⟨g, 2, none⟩ = some v2 ∧ W.cell? ⟨g, 3, none⟩ = some v3 ∧ W.cell? ⟨g, 4, none⟩ = some v4 ∧ W.cell? ⟨g, 5, none⟩ = some v5 ∧ g < W.heap.size := ⟨h.cell 0, h.cell 1, h.cell 2, h.cell 3, h.cell 4, h.cell 5, h.lt⟩
theorem ints_at {W : World} {g : Nat} (xs : List Int) {l : Nat} (h : Blk W g 3 (xs.map (Value.int .i64)).toArray) (hl : l = xs.length) (hs : l ≤ 1000) (hx : ∀ x ∈ xs, I64 x) : Ints W (.slice (some ⟨g, 0, none⟩) l l) xs :=
  ints_of (sl_ints xs h hl (by omega) hx)
def awboR : GRule := ⟨false, [1, 2], false, 0, [], []⟩
def awchR : GRule := ⟨true, [2, 3], false, 0, [], []⟩
def awsuR : GRule := ⟨false, [1], true, 2, [-2, 3], [1, 1]⟩
def awP0 : GProg := withP 2 [awboR, ⟨false, [1], false, 0, [2], []⟩, ⟨false, [2], false, 0, [1], []⟩]
def awP1 : GProg := withP 2 [⟨true, [1], false, 0, [], []⟩, ⟨false, [2], false, 0, [1], []⟩]
def awP2 : GProg := withP 1 [⟨false, [1], false, 0, [1], []⟩]
def awP3 : GProg := withP 1 [⟨false, [1], false, 0, [-1], []⟩]
def awP4 : GProg := withP 3 [awsuR, awchR]
theorem aw_ev : allL evP = [[1], [2]] := by kernel_rfl
theorem aw_evV : validE evP = 0 := by kernel_rfl
theorem aw_a0 : allL awP0 = [[1, 2]] := by kernel_rfl
theorem aw_v0 : validE awP0 = 0 := by kernel_rfl
theorem aw_a1 : allL awP1 = [[], [1, 2]] := by kernel_rfl
theorem aw_v1 : validE awP1 = 0 := by kernel_rfl
theorem aw_a2 : allL awP2 = [[]] := by kernel_rfl
theorem aw_v2 : validE awP2 = 0 := by kernel_rfl
theorem aw_a3 : allL awP3 = [] := by kernel_rfl
theorem aw_v3 : validE awP3 = 0 := by kernel_rfl
theorem aw_a4 : allL awP4 = [[], [1, 3], [2], [2, 3]] := by kernel_rfl
theorem aw_v4 : validE awP4 = 0 := by kernel_rfl
def awO0 (n : Nat) (awboH awboB awboW : Value) : List Obj := [.cells #[.int .i64 1] 3, .cells #[.int .i64 2] 3, .cells #[.int .i64 2] 3, .cells #[.int .i64 1] 3, .cells #[.bool false, awboH, .bool false, .int .i64 0, awboB, awboW, .bool false, .slice (some ⟨n + 0, 0, none⟩) 1 1, .bool false, .int .i64 0, .slice (some ⟨n + 1, 0, none⟩) 1 1, .slice none 0 0, .bool false, .slice (some ⟨n + 2, 0, none⟩) 1 1, .bool false, .int .i64 0, .slice (some ⟨n + 3, 0, none⟩) 1 1, .slice none 0 0] 32]
theorem awR0 {W : World} {n : Nat} {awboH awboB awboW : Value} (h : ∀ i cs t, (awO0 n awboH awboB awboW)[i]? = some (.cells cs t) → Blk W (n + i) t cs) (hawbo : Ints W awboH awboR.head ∧ Ints W awboB awboR.body ∧ Ints W awboW awboR.w) : SlIs ruleR W (some ⟨n + 4, 0, none⟩) 3 3 awP0.rules :=
  sl_rulesAt (h 4 _ _ rfl) ⟨rfl, hawbo.1, rfl, rfl, by simp [I64, awboR], hawbo.2.1, hawbo.2.2, rfl, ints_at [1] (h 0 _ _ rfl) rfl (by simp) (by simp [I64]), rfl, rfl, by simp [I64], ints_at [2] (h 1 _ _ rfl) rfl (by simp) (by simp [I64]), ints_nil _, rfl, ints_at [2] (h 2 _ _ rfl) rfl (by simp) (by simp [I64]), rfl, rfl, by simp [I64], ints_at [1] (h 3 _ _ rfl) rfl (by simp) (by simp [I64]), ints_nil _, trivial⟩ rfl (by simp)
def awS0 (n : Nat) : List Obj := [.cells #[.int .i64 1, .int .i64 2] 3, .cells #[.slice (some ⟨n + 0, 0, none⟩) 2 2] 23]
theorem awT0 {W : World} {n : Nat} (h : ∀ i cs t, (awS0 n)[i]? = some (.cells cs t) → Blk W (n + i) t cs) : SlIs (slR intR) W (some ⟨n + 1, 0, none⟩) 1 1 [[1, 2]] :=
  sl_setsAt (h 1 _ _ rfl) ⟨ints_at [1, 2] (h 0 _ _ rfl) rfl (by simp) (by simp [I64]), trivial⟩ rfl (by simp)
def awO1 (n : Nat)  : List Obj := [.cells #[.int .i64 1] 3, .cells #[.int .i64 2] 3, .cells #[.int .i64 1] 3, .cells #[.bool true, .slice (some ⟨n + 0, 0, none⟩) 1 1, .bool false, .int .i64 0, .slice none 0 0, .slice none 0 0, .bool false, .slice (some ⟨n + 1, 0, none⟩) 1 1, .bool false, .int .i64 0, .slice (some ⟨n + 2, 0, none⟩) 1 1, .slice none 0 0] 32]
theorem awR1 {W : World} {n : Nat}  (h : ∀ i cs t, (awO1 n )[i]? = some (.cells cs t) → Blk W (n + i) t cs)  : SlIs ruleR W (some ⟨n + 3, 0, none⟩) 2 2 awP1.rules :=
  sl_rulesAt (h 3 _ _ rfl) ⟨rfl, ints_at [1] (h 0 _ _ rfl) rfl (by simp) (by simp [I64]), rfl, rfl, by simp [I64], ints_nil _, ints_nil _, rfl, ints_at [2] (h 1 _ _ rfl) rfl (by simp) (by simp [I64]), rfl, rfl, by simp [I64], ints_at [1] (h 2 _ _ rfl) rfl (by simp) (by simp [I64]), ints_nil _, trivial⟩ rfl (by simp)
def awS1 (n : Nat) : List Obj := [.cells #[.int .i64 1, .int .i64 2] 3, .cells #[.slice none 0 0, .slice (some ⟨n + 0, 0, none⟩) 2 2] 23]
theorem awT1 {W : World} {n : Nat} (h : ∀ i cs t, (awS1 n)[i]? = some (.cells cs t) → Blk W (n + i) t cs) : SlIs (slR intR) W (some ⟨n + 1, 0, none⟩) 2 2 [[], [1, 2]] :=
  sl_setsAt (h 1 _ _ rfl) ⟨ints_nil _, ints_at [1, 2] (h 0 _ _ rfl) rfl (by simp) (by simp [I64]), trivial⟩ rfl (by simp)
def awO2 (n : Nat)  : List Obj := [.cells #[.int .i64 1] 3, .cells #[.int .i64 1] 3, .cells #[.bool false, .slice (some ⟨n + 0, 0, none⟩) 1 1, .bool false, .int .i64 0, .slice (some ⟨n + 1, 0, none⟩) 1 1, .slice none 0 0] 32]
theorem awR2 {W : World} {n : Nat}  (h : ∀ i cs t, (awO2 n )[i]? = some (.cells cs t) → Blk W (n + i) t cs)  : SlIs ruleR W (some ⟨n + 2, 0, none⟩) 1 1 awP2.rules :=
  sl_rulesAt (h 2 _ _ rfl) ⟨rfl, ints_at [1] (h 0 _ _ rfl) rfl (by simp) (by simp [I64]), rfl, rfl, by simp [I64], ints_at [1] (h 1 _ _ rfl) rfl (by simp) (by simp [I64]), ints_nil _, trivial⟩ rfl (by simp)
def awS2 (_ : Nat) : List Obj := [.cells #[.slice none 0 0] 23]
theorem awT2 {W : World} {n : Nat} (h : ∀ i cs t, (awS2 n)[i]? = some (.cells cs t) → Blk W (n + i) t cs) : SlIs (slR intR) W (some ⟨n + 0, 0, none⟩) 1 1 [[]] :=
  sl_setsAt (h 0 _ _ rfl) ⟨ints_nil _, trivial⟩ rfl (by simp)
def awO3 (n : Nat)  : List Obj := [.cells #[.int .i64 1] 3, .cells #[.int .i64 (-1)] 3, .cells #[.bool false, .slice (some ⟨n + 0, 0, none⟩) 1 1, .bool false, .int .i64 0, .slice (some ⟨n + 1, 0, none⟩) 1 1, .slice none 0 0] 32]
theorem awR3 {W : World} {n : Nat}  (h : ∀ i cs t, (awO3 n )[i]? = some (.cells cs t) → Blk W (n + i) t cs)  : SlIs ruleR W (some ⟨n + 2, 0, none⟩) 1 1 awP3.rules :=
  sl_rulesAt (h 2 _ _ rfl) ⟨rfl, ints_at [1] (h 0 _ _ rfl) rfl (by simp) (by simp [I64]), rfl, rfl, by simp [I64], ints_at [-1] (h 1 _ _ rfl) rfl (by simp) (by simp [I64]), ints_nil _, trivial⟩ rfl (by simp)
def awO4 (_ : Nat) (awsuH awsuB awsuW : Value) (awchH awchB awchW : Value) : List Obj := [.cells #[.bool false, awsuH, .bool true, .int .i64 2, awsuB, awsuW, .bool true, awchH, .bool false, .int .i64 0, awchB, awchW] 32]
theorem awR4 {W : World} {n : Nat} {awsuH awsuB awsuW : Value} {awchH awchB awchW : Value} (h : ∀ i cs t, (awO4 n awsuH awsuB awsuW awchH awchB awchW)[i]? = some (.cells cs t) → Blk W (n + i) t cs) (hawsu : Ints W awsuH awsuR.head ∧ Ints W awsuB awsuR.body ∧ Ints W awsuW awsuR.w) (hawch : Ints W awchH awchR.head ∧ Ints W awchB awchR.body ∧ Ints W awchW awchR.w) : SlIs ruleR W (some ⟨n + 0, 0, none⟩) 2 2 awP4.rules :=
  sl_rulesAt (h 0 _ _ rfl) ⟨rfl, hawsu.1, rfl, rfl, by simp [I64, awsuR], hawsu.2.1, hawsu.2.2, rfl, hawch.1, rfl, rfl, by simp [I64, awchR], hawch.2.1, hawch.2.2, trivial⟩ rfl (by simp)
def awS4 (n : Nat) : List Obj := [.cells #[.int .i64 1, .int .i64 3] 3, .cells #[.int .i64 2] 3, .cells #[.int .i64 2, .int .i64 3] 3, .cells #[.slice none 0 0, .slice (some ⟨n + 0, 0, none⟩) 2 2, .slice (some ⟨n + 1, 0, none⟩) 1 1, .slice (some ⟨n + 2, 0, none⟩) 2 2] 23]
theorem awT4 {W : World} {n : Nat} (h : ∀ i cs t, (awS4 n)[i]? = some (.cells cs t) → Blk W (n + i) t cs) : SlIs (slR intR) W (some ⟨n + 3, 0, none⟩) 4 4 [[], [1, 3], [2], [2, 3]] :=
  sl_setsAt (h 3 _ _ rfl) ⟨ints_nil _, ints_at [1, 3] (h 0 _ _ rfl) rfl (by simp) (by simp [I64]), ints_at [2] (h 1 _ _ rfl) rfl (by simp) (by simp [I64]), ints_at [2, 3] (h 2 _ _ rfl) rfl (by simp) (by simp [I64]), trivial⟩ rfl (by simp)
def awSe (n : Nat) : List Obj := [.cells #[.int .i64 1] 3, .cells #[.int .i64 2] 3, .cells #[.slice (some ⟨n + 0, 0, none⟩) 1 1, .slice (some ⟨n + 1, 0, none⟩) 1 1] 23]
theorem awTe {W : World} {n : Nat} (h : ∀ i cs t, (awSe n)[i]? = some (.cells cs t) → Blk W (n + i) t cs) : SlIs (slR intR) W (some ⟨n + 2, 0, none⟩) 2 2 [[1], [2]] :=
  sl_setsAt (h 2 _ _ rfl) ⟨ints_at [1] (h 0 _ _ rfl) rfl (by simp) (by simp [I64]), ints_at [2] (h 1 _ _ rfl) rfl (by simp) (by simp [I64]), trivial⟩ rfl (by simp)
def awSb (n : Nat) : List Obj := [.cells #[.int .i64 2] 3, .cells #[.slice (some ⟨n + 0, 0, none⟩) 1 1] 23]
theorem awTb {W : World} {n : Nat} (h : ∀ i cs t, (awSb n)[i]? = some (.cells cs t) → Blk W (n + i) t cs) : SlIs (slR intR) W (some ⟨n + 1, 0, none⟩) 1 1 [[2]] :=
  sl_setsAt (h 1 _ _ rfl) ⟨ints_at [2] (h 0 _ _ rfl) rfl (by simp) (by simp [I64]), trivial⟩ rfl (by simp)
def awBo (n : Nat) : List Obj := [.cells #[.int .i64 1, .int .i64 2] 3, .cells #[.bool false, .slice (some ⟨n + 0, 0, none⟩) 2 2, .bool false, .int .i64 0, .slice none 0 0, .slice none 0 0] 32, .cells #[.int .i64 2, .int .i64 3] 3, .cells #[.bool true, .slice (some ⟨n + 2, 0, none⟩) 2 2, .bool false, .int .i64 0, .slice none 0 0, .slice none 0 0] 32,
  .cells #[.int .i64 1] 3, .cells #[.int .i64 (-2), .int .i64 3] 3, .cells #[.int .i64 1, .int .i64 1] 3, .cells #[.bool false, .slice (some ⟨n + 4, 0, none⟩) 1 1, .bool true, .int .i64 2, .slice (some ⟨n + 5, 0, none⟩) 2 2, .slice (some ⟨n + 6, 0, none⟩) 2 2] 32]
theorem evC1 : checkE evP [1] = 0 := by kernel_rfl
theorem evC2 : costsE evP [1] = [2] := by kernel_rfl
theorem evC3 : checkE evP [3] = 2 := by kernel_rfl
theorem evB : bestL (costL evP) (allL evP) = ([[2]], [1]) := by kernel_rfl
theorem ev_small : SmallP evP := ⟨validE_is aw_evV, by decide, by decide, by decide⟩
theorem is3_any (nA : Option Addr) (nl nc : Nat) (sA : Option Addr) (sl sc : Nat) (rA : Option Addr) (rl rc : Nat) (mA : Option Addr) (ml mc : Nat) (xA : Option Addr) (xl xc : Nat) (w : World) (hp : ProgIn w evP nA nl nc sA sl sc rA rl rc mA ml mc) (hm : SlIs intR w xA xl xc [3]) : Calls Tryz.prog 24 #[.agg #[.int .i64 evP.n, .slice nA nl nc, .slice sA sl sc, .slice rA rl rc, .slice mA ml mc], .slice xA xl xc] w fun e w' => e = .returned (.tuple #[.bool false, .int .i64 2]) ∧ Below w.heap.size w w' :=
  (stableIs_err evP _ _ _ _ _ _ _ _ _ _ _ _ _ _ _ [3] w hp hm (by rw [evC3]; decide)).mono fun e w' ⟨h1, h2⟩ => ⟨by rw [h1, evC3], h2⟩

set_option maxRecDepth 100000 in
set_option maxHeartbeats 4000000 in
theorem awake20_any (w : World) : Calls Tryz.prog 6 #[] w fun e w' => e = .returned (.bool true) ∧ Below w.heap.size w w' := by
  go_enter Tryz.func6, Tryz.ntmps6
  go_wp2_with fail
  go_fit (even_any _); rintro e w1 ⟨nA, nl, nc, sA, sl, sc, rA, rl, rc, mA, ml, mc, rfl, hp, hb1⟩
  have HBW := Lib.hid hb1
  clear hb1
  have HP := Lib.hid hp; clear hp
  go_wp2_with fail
  go_fit (stableCosts_any evP _ _ _ _ _ _ _ _ _ _ _ _ _ _ _ [1] _ (HP.out.ext (bel_alloc _ _)) (slx _ [1] 1 _ (by simp) rfl (by simp [I64]) (by omega))); rintro e w2 ⟨cA, cl, cc, rfl, hc, hb⟩
  rw [evC1]
  rw [evC2] at hc
  replace hb := bel_trans (bel_alloc _ _) hb
  replace HBW := Lib.hid (bel_trans HBW.out hb)
  clear hb HP
  have HC := Lib.hid hc; clear hc
  go_wp2_with fail
  go_fit (even_any _); rintro e w3 ⟨nA, nl, nc, sA, sl, sc, rA, rl, rc, mA, ml, mc, rfl, hp, hb⟩
  replace HBW := Lib.hid (bel_trans HBW.out hb)
  replace HC := Lib.hid (HC.out.ext hb)
  clear hb
  have HP := Lib.hid hp; clear hp
  go_wp2_with fail
  go_fit (stableBest_any evP _ _ _ _ _ _ _ _ _ _ _ _ _ HP.out aw_evV ev_small); rintro e w4 ⟨A, l, c, B, k, q, rfl, hl, hq, hb⟩
  rw [evB] at hl hq
  replace HBW := Lib.hid (bel_trans HBW.out hb)
  replace HC := Lib.hid (HC.out.ext hb)
  clear hb HP
  have HL := Lib.hid hl; clear hl
  have HQ := Lib.hid hq; clear hq
  go_wp2_with fail
  go_fit (even_any _); rintro e w5 ⟨nA, nl, nc, sA, sl, sc, rA, rl, rc, mA, ml, mc, rfl, hp, hb⟩
  replace HBW := Lib.hid (bel_trans HBW.out hb)
  replace HC := Lib.hid (HC.out.ext hb)
  replace HL := Lib.hid (HL.out.ext hb)
  replace HQ := Lib.hid (HQ.out.ext hb)
  clear hb
  have HP := Lib.hid hp; clear hp
  go_wp2_with fail
  go_fit (is3_any _ _ _ _ _ _ _ _ _ _ _ _ _ _ _ _ (HP.out.ext (bel_alloc _ _)) (slx _ [3] 1 _ (by simp) rfl (by simp [I64]) (by omega))); rintro e w6 ⟨rfl, hb⟩
  replace hb := bel_trans (bel_alloc _ _) hb
  replace HBW := Lib.hid (bel_trans HBW.out hb)
  replace HC := Lib.hid (HC.out.ext hb)
  replace HL := Lib.hid (HL.out.ext hb)
  replace HQ := Lib.hid (HQ.out.ext hb)
  clear hb HP
  go_wp2_with fail
  change Calls _ _ _ ((allocs w6 (awBo w6.heap.size)).alloc _) _
  have hbo := allocs_bel (awBo w6.heap.size) w6
  have hbl : ∀ i cs t, (awBo w6.heap.size)[i]? = some (.cells cs t) → Blk (allocs w6 (awBo w6.heap.size)) (w6.heap.size + i) t cs := fun i cs t h => allocs_blk i h
  have HXawbo : Hid (RBox (allocs w6 (awBo w6.heap.size)) (w6.heap.size + 1) (.slice (some ⟨w6.heap.size + 0, 0, none⟩) 2 2) (.slice none 0 0) (.slice none 0 0) awboR) := Lib.hid ⟨hbl 1 _ _ rfl, ints_at [1, 2] (hbl 0 _ _ rfl) rfl (by simp) (by simp [I64]), ints_nil _, ints_nil _⟩
  have HXawch : Hid (RBox (allocs w6 (awBo w6.heap.size)) (w6.heap.size + 1 + 1 + 1) (.slice (some ⟨w6.heap.size + 2, 0, none⟩) 2 2) (.slice none 0 0) (.slice none 0 0) awchR) := Lib.hid ⟨hbl 3 _ _ rfl, ints_at [2, 3] (hbl 2 _ _ rfl) rfl (by simp) (by simp [I64]), ints_nil _, ints_nil _⟩
  have HXawsu : Hid (RBox (allocs w6 (awBo w6.heap.size)) (w6.heap.size + 1 + 1 + 1 + 1 + 1 + 1 + 1) (.slice (some ⟨w6.heap.size + 4, 0, none⟩) 1 1) (.slice (some ⟨w6.heap.size + 5, 0, none⟩) 2 2) (.slice (some ⟨w6.heap.size + 6, 0, none⟩) 2 2) awsuR) := Lib.hid ⟨hbl 7 _ _ rfl, ints_at [1] (hbl 4 _ _ rfl) rfl (by simp) (by simp [I64]), ints_at [-2, 3] (hbl 5 _ _ rfl) rfl (by simp) (by simp [I64]), ints_at [1, 1] (hbl 6 _ _ rfl) rfl (by simp) (by simp [I64])⟩
  clear hbl
  replace HBW := Lib.hid (bel_trans HBW.out hbo)
  replace HC := Lib.hid (HC.out.ext hbo)
  replace HL := Lib.hid (HL.out.ext hbo)
  replace HQ := Lib.hid (HQ.out.ext hbo)
  clear hbo
  have h8 : (allocs w6 (awBo w6.heap.size)).heap.size = w6.heap.size + 1 + 1 + 1 + 1 + 1 + 1 + 1 + 1 := by simp [allocs, awBo]
  generalize allocs w6 (awBo w6.heap.size) = w7 at *
  have H8 := Lib.hid h8; clear h8
  go_fit (lawInts_any _ _ _ _ _ _ [2] [2] _ (HC.out.ext (bel_alloc _ _)) (slx _ [2] 1 _ H8.out rfl (by simp [I64]) (by omega))); rintro e w8 ⟨rfl, hb⟩
  rw [show decide (([2] : List Int) = [2]) = true from rfl]
  replace hb := bel_trans (bel_alloc _ _) hb
  replace HBW := Lib.hid (bel_trans HBW.out hb)
  replace HL := Lib.hid (HL.out.ext hb)
  replace HQ := Lib.hid (HQ.out.ext hb)
  replace HXawbo := Lib.hid (HXawbo.out.bel hb)
  replace HXawch := Lib.hid (HXawch.out.bel hb)
  replace HXawsu := Lib.hid (HXawsu.out.bel hb)
  clear hb HC
  go_wp2_with fail
  change Calls _ _ _ (allocs w8 (awSb w8.heap.size)) _
  go_fit (lists_any _ _ _ _ _ _ [[2]] [[2]] _ (HL.out.ext (allocs_bel _ _)) (awTb (n := w8.heap.size) (fun _ _ _ h => allocs_blk _ h))); rintro e w9 ⟨rfl, hb⟩
  rw [show decide (([[2]] : List (List Int)) = [[2]]) = true from rfl]
  replace hb := bel_trans (allocs_bel _ _) hb
  replace HBW := Lib.hid (bel_trans HBW.out hb)
  replace HQ := Lib.hid (HQ.out.ext hb)
  replace HXawbo := Lib.hid (HXawbo.out.bel hb)
  replace HXawch := Lib.hid (HXawch.out.bel hb)
  replace HXawsu := Lib.hid (HXawsu.out.bel hb)
  clear hb HL
  go_wp2_with fail
  go_fit (lawInts_any _ _ _ _ _ _ [1] [1] _ (HQ.out.ext (bel_alloc _ _)) (slx _ [1] 1 _ (by simp) rfl (by simp [I64]) (by omega))); rintro e w10 ⟨rfl, hb⟩
  rw [show decide (([1] : List Int) = [1]) = true from rfl]
  replace hb := bel_trans (bel_alloc _ _) hb
  replace HBW := Lib.hid (bel_trans HBW.out hb)
  replace HXawbo := Lib.hid (HXawbo.out.bel hb)
  replace HXawch := Lib.hid (HXawch.out.bel hb)
  replace HXawsu := Lib.hid (HXawsu.out.bel hb)
  clear hb HQ
  go_wp2_with fail
  go_fit (even_any _); rintro e w11 ⟨nA, nl, nc, sA, sl, sc, rA, rl, rc, mA, ml, mc, rfl, hp, hb⟩
  replace HBW := Lib.hid (bel_trans HBW.out hb)
  replace HXawbo := Lib.hid (HXawbo.out.bel hb)
  replace HXawch := Lib.hid (HXawch.out.bel hb)
  replace HXawsu := Lib.hid (HXawsu.out.bel hb)
  clear hb
  have HP := Lib.hid hp; clear hp
  go_wp2_with fail
  change Calls _ _ _ (allocs w11 (awSe w11.heap.size)) _
  go_fit (has_true evP _ _ _ _ _ _ _ _ _ _ _ _ _ _ _ _ _ (HP.out.ext (allocs_bel _ _)) (awTe (n := w11.heap.size) (fun _ _ _ h => allocs_blk _ h)) aw_evV (by decide) (by decide) aw_ev); rintro e w12 ⟨rfl, hb⟩
  replace hb := bel_trans (allocs_bel _ _) hb
  replace HBW := Lib.hid (bel_trans HBW.out hb)
  replace HXawbo := Lib.hid (HXawbo.out.bel hb)
  replace HXawch := Lib.hid (HXawch.out.bel hb)
  replace HXawsu := Lib.hid (HXawsu.out.bel hb)
  clear hb HP
  obtain ⟨rawbo0, rawbo1, rawbo2, rawbo3, rawbo4, rawbo5, rawbo6⟩ := rcells HXawbo.out.1
  go_wp2_with fail
  change Calls _ _ _ (allocs w12 (awO0 w12.heap.size _ _ _)) _
  go_fit (with20_any _ _ _ awP0.rules 2 _ (awR0 (n := w12.heap.size) (fun _ _ _ h => allocs_blk _ h) ⟨(slR intR).ext HXawbo.out.2.1 (allocs_bel _ _), (slR intR).ext HXawbo.out.2.2.1 (allocs_bel _ _), (slR intR).ext HXawbo.out.2.2.2 (allocs_bel _ _)⟩) (by omega)); rintro e v0 ⟨nA, nl, nc, rfl, hp, hb, -⟩
  replace hb := bel_trans (allocs_bel _ _) hb
  replace HBW := Lib.hid (bel_trans HBW.out hb)
  replace HXawch := Lib.hid (HXawch.out.bel hb)
  replace HXawsu := Lib.hid (HXawsu.out.bel hb)
  clear hb rawbo0 rawbo1 rawbo2 rawbo3 rawbo4 rawbo5 rawbo6
  have HP := Lib.hid hp; clear hp
  go_wp2_with fail
  change Calls _ _ _ (allocs v0 (awS0 v0.heap.size)) _
  go_fit (has_true awP0 _ _ _ _ _ _ _ _ _ _ _ _ _ _ _ _ _ (HP.out.ext (allocs_bel _ _)) (awT0 (n := v0.heap.size) (fun _ _ _ h => allocs_blk _ h)) aw_v0 (by decide) (by decide) aw_a0); rintro e u0 ⟨rfl, hb⟩
  replace hb := bel_trans (allocs_bel _ _) hb
  replace HBW := Lib.hid (bel_trans HBW.out hb)
  replace HXawch := Lib.hid (HXawch.out.bel hb)
  replace HXawsu := Lib.hid (HXawsu.out.bel hb)
  clear hb HP
  go_wp2_with fail
  change Calls _ _ _ (allocs u0 (awO1 u0.heap.size )) _
  go_fit (with20_any _ _ _ awP1.rules 2 _ (awR1 (n := u0.heap.size) (fun _ _ _ h => allocs_blk _ h) ) (by omega)); rintro e v1 ⟨nA, nl, nc, rfl, hp, hb, -⟩
  replace hb := bel_trans (allocs_bel _ _) hb
  replace HBW := Lib.hid (bel_trans HBW.out hb)
  replace HXawch := Lib.hid (HXawch.out.bel hb)
  replace HXawsu := Lib.hid (HXawsu.out.bel hb)
  clear hb
  have HP := Lib.hid hp; clear hp
  go_wp2_with fail
  change Calls _ _ _ (allocs v1 (awS1 v1.heap.size)) _
  go_fit (has_true awP1 _ _ _ _ _ _ _ _ _ _ _ _ _ _ _ _ _ (HP.out.ext (allocs_bel _ _)) (awT1 (n := v1.heap.size) (fun _ _ _ h => allocs_blk _ h)) aw_v1 (by decide) (by decide) aw_a1); rintro e u1 ⟨rfl, hb⟩
  replace hb := bel_trans (allocs_bel _ _) hb
  replace HBW := Lib.hid (bel_trans HBW.out hb)
  replace HXawch := Lib.hid (HXawch.out.bel hb)
  replace HXawsu := Lib.hid (HXawsu.out.bel hb)
  clear hb HP
  go_wp2_with fail
  change Calls _ _ _ (allocs u1 (awO2 u1.heap.size )) _
  go_fit (with20_any _ _ _ awP2.rules 1 _ (awR2 (n := u1.heap.size) (fun _ _ _ h => allocs_blk _ h) ) (by omega)); rintro e v2 ⟨nA, nl, nc, rfl, hp, hb, -⟩
  replace hb := bel_trans (allocs_bel _ _) hb
  replace HBW := Lib.hid (bel_trans HBW.out hb)
  replace HXawch := Lib.hid (HXawch.out.bel hb)
  replace HXawsu := Lib.hid (HXawsu.out.bel hb)
  clear hb
  have HP := Lib.hid hp; clear hp
  go_wp2_with fail
  change Calls _ _ _ (allocs v2 (awS2 v2.heap.size)) _
  go_fit (has_true awP2 _ _ _ _ _ _ _ _ _ _ _ _ _ _ _ _ _ (HP.out.ext (allocs_bel _ _)) (awT2 (n := v2.heap.size) (fun _ _ _ h => allocs_blk _ h)) aw_v2 (by decide) (by decide) aw_a2); rintro e u2 ⟨rfl, hb⟩
  replace hb := bel_trans (allocs_bel _ _) hb
  replace HBW := Lib.hid (bel_trans HBW.out hb)
  replace HXawch := Lib.hid (HXawch.out.bel hb)
  replace HXawsu := Lib.hid (HXawsu.out.bel hb)
  clear hb HP
  go_wp2_with fail
  change Calls _ _ _ (allocs u2 (awO3 u2.heap.size )) _
  go_fit (with20_any _ _ _ awP3.rules 1 _ (awR3 (n := u2.heap.size) (fun _ _ _ h => allocs_blk _ h) ) (by omega)); rintro e v3 ⟨nA, nl, nc, rfl, hp, hb, -⟩
  replace hb := bel_trans (allocs_bel _ _) hb
  replace HBW := Lib.hid (bel_trans HBW.out hb)
  replace HXawch := Lib.hid (HXawch.out.bel hb)
  replace HXawsu := Lib.hid (HXawsu.out.bel hb)
  clear hb
  have HP := Lib.hid hp; clear hp
  go_wp2_with fail
  go_fit (has_true awP3 _ _ _ _ _ _ _ _ _ _ _ _ _ _ _ _ _ HP.out (SlIs.nil _ _) aw_v3 (by decide) (by decide) aw_a3); rintro e u3 ⟨rfl, hb⟩
  replace HBW := Lib.hid (bel_trans HBW.out hb)
  replace HXawch := Lib.hid (HXawch.out.bel hb)
  replace HXawsu := Lib.hid (HXawsu.out.bel hb)
  clear hb HP
  obtain ⟨rawsu0, rawsu1, rawsu2, rawsu3, rawsu4, rawsu5, rawsu6⟩ := rcells HXawsu.out.1
  obtain ⟨rawch0, rawch1, rawch2, rawch3, rawch4, rawch5, rawch6⟩ := rcells HXawch.out.1
  go_wp2_with fail
  change Calls _ _ _ (allocs u3 (awO4 u3.heap.size _ _ _ _ _ _)) _
  go_fit (with20_any _ _ _ awP4.rules 3 _ (awR4 (n := u3.heap.size) (fun _ _ _ h => allocs_blk _ h) ⟨(slR intR).ext HXawsu.out.2.1 (allocs_bel _ _), (slR intR).ext HXawsu.out.2.2.1 (allocs_bel _ _), (slR intR).ext HXawsu.out.2.2.2 (allocs_bel _ _)⟩ ⟨(slR intR).ext HXawch.out.2.1 (allocs_bel _ _), (slR intR).ext HXawch.out.2.2.1 (allocs_bel _ _), (slR intR).ext HXawch.out.2.2.2 (allocs_bel _ _)⟩) (by omega)); rintro e v4 ⟨nA, nl, nc, rfl, hp, hb, -⟩
  replace hb := bel_trans (allocs_bel _ _) hb
  replace HBW := Lib.hid (bel_trans HBW.out hb)
  clear hb rawsu0 rawsu1 rawsu2 rawsu3 rawsu4 rawsu5 rawsu6 rawch0 rawch1 rawch2 rawch3 rawch4 rawch5 rawch6
  have HP := Lib.hid hp; clear hp
  go_wp2_with fail
  change Calls _ _ _ (allocs v4 (awS4 v4.heap.size)) _
  go_fit (has_true awP4 _ _ _ _ _ _ _ _ _ _ _ _ _ _ _ _ _ (HP.out.ext (allocs_bel _ _)) (awT4 (n := v4.heap.size) (fun _ _ _ h => allocs_blk _ h)) aw_v4 (by decide) (by decide) aw_a4); rintro e u4 ⟨rfl, hb⟩
  replace hb := bel_trans (allocs_bel _ _) hb
  replace HBW := Lib.hid (bel_trans HBW.out hb)
  clear hb HP
  go_wp2_with fail
  go_ret
  exact ⟨rfl, HBW.out⟩
end Go.Proofs.YtdkjanbfheehoaaGreat

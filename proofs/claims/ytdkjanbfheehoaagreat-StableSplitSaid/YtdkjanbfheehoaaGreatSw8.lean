/- Contracts: stable.costs and stable.Costs. -/
import Derived.Test.YtdkjanbfheehoaaGreatG5
import Derived.Test.YtdkjanbfheehoaaGreatG6
import Derived.Test.YtdkjanbfheehoaaGreatMdp
namespace Go.Proofs.YtdkjanbfheehoaaGreat
open Go.RowKit

/-- A level that can be reckoned. -/
structure LevOk (l : GMin) : Prop where
  lit : ∀ x ∈ l.lits, x ≠ 0 ∧ -4000 ≤ x ∧ x ≤ 4000
  len : l.w.length = l.lits.length
  pos : ∀ y ∈ l.w, 0 ≤ y
  tot : l.w.sum ≤ 1048576
theorem minGoE_ok {n : Int} (hn : n ≤ 4000) : ∀ (ms : List GMin) (q : Option GMin), minGoE n q ms = true → ∀ l ∈ ms, LevOk l
  | [], _, _, l, hl => by simp at hl
  | m :: r, q, h, l, hl => by
    rw [minGoE_cons] at h
    simp only [Bool.and_eq_true] at h
    rcases List.mem_cons.1 hl with rfl | hl
    · have h1 := h.1.1
      unfold minOk at h1
      simp only [Bool.and_eq_true, decide_eq_true_eq] at h1
      have h2 := h1.1.1.2
      unfold wtB at h2
      simp only [Bool.and_eq_true, decide_eq_true_eq] at h2
      have h3 := wtGo_spec l.w 0 (by omega) (by omega) h2.1
      refine ⟨fun x hx => ?_, h2.2, fun y hy => by have := h3.1 y hy; omega, by omega⟩
      have h4 := ordGo_mem n _ _ h1.1.1.1 x hx
      have h5 := litB_bd h4
      unfold litB at h4
      simp at h4
      omega
    · exact minGoE_ok hn r (some m) h.2 l hl
theorem sumT_step (m : List Int) {xs ys : List Int} {j : Nat} {x y : Int} (hx : xs[j]? = some x) (hy : ys[j]? = some y) :
    sumT (xs.take (j + 1)) (ys.take (j + 1)) m = sumT (xs.take j) (ys.take j) m + (if trueB x m then y else 0) := by
  have h1 := (List.getElem?_eq_some_iff.1 hx).1
  have h2 := (List.getElem?_eq_some_iff.1 hy).1
  rw [List.take_add_one, List.take_add_one, hx, hy]
  simp only [Option.toList]
  rw [sumT_append m _ _ _ _ (by simp; omega)]
  simp [sumT]
theorem sumT_sum (m : List Int) : ∀ (xs ys : List Int), (∀ y ∈ ys, 0 ≤ y) → sumT xs ys m ≤ ys.sum
  | [], ys, h => by have := sum_nonneg h; simp [sumT]; exact this
  | _ :: _, [], _ => by simp [sumT]
  | x :: xs, y :: ys, h => by
    have h1 := sumT_sum m xs ys fun z hz => h z (by simp [hz])
    have h2 := h y (by simp)
    rw [sumT_cons, List.sum_cons]
    split <;> omega
theorem sum_take_le : ∀ (ys : List Int) (j : Nat), (∀ y ∈ ys, 0 ≤ y) → (ys.take j).sum ≤ ys.sum
  | [], j, _ => by simp
  | y :: r, 0, h => by have := sum_nonneg h; simpa using this
  | y :: r, j + 1, h => by
    have := sum_take_le r j fun z hz => h z (by simp [hz])
    simp; omega
theorem sumT_take_bd (m : List Int) {l : GMin} (h : LevOk l) (j : Nat) : 0 ≤ sumT (l.lits.take j) (l.w.take j) m ∧ sumT (l.lits.take j) (l.w.take j) m ≤ 1048576 := by
  have hp : ∀ y ∈ l.w.take j, 0 ≤ y := fun y hy => h.pos y (List.mem_of_mem_take hy)
  have h1 := sumT_nonneg m (l.lits.take j) _ hp
  have h2 := sumT_sum m (l.lits.take j) _ hp
  have h3 := sum_take_le l.w j h.pos
  have h4 := h.tot
  omega
theorem true_max {x : Int} (_ : x ≠ 0) (m : List Int) : (decide (max x (-x) ∈ m) == decide (0 < x)) = trueB x m := by
  unfold trueB
  by_cases h1 : 0 < x
  · rw [if_pos h1, show max x (-x) = x from by omega]; simp [h1]
  · rw [if_neg h1, show max x (-x) = -x from by omega]; simp [h1]
/-- The costs while they are reckoned: k levels are done, s is reached in the next one. -/
def cosF (cs : List Int) (k : Nat) (s : Int) : Nat → Int := fun i => if i = k then s else if i < k then cs.getD i 0 else 0
theorem cosF_zero (cs : List Int) : (fun _ => 0) = cosF cs 0 0 := by funext i; simp [cosF]
theorem cosF_set (cs : List Int) (k : Nat) (s t : Int) : (fun j => if j = k then t else cosF cs k s j) = cosF cs k t := by
  funext i; unfold cosF; by_cases h : i = k <;> simp [h]
theorem cosF_next {cs : List Int} {k : Nat} {s : Int} (h : cs[k]? = some s) : cosF cs k s = cosF cs (k + 1) 0 := by
  funext i
  unfold cosF
  by_cases h1 : i = k
  · subst h1
    rw [if_pos rfl, if_neg (by omega), if_pos (by omega), List.getD_eq_getElem?_getD, h]; rfl
  · by_cases h2 : i = k + 1
    · rw [if_neg h1, if_pos h2, if_neg (by omega)]
    · rw [if_neg h1, if_neg h2]
      by_cases h3 : i < k
      · rw [if_pos h3, if_pos (by omega)]
      · rw [if_neg h3, if_neg (by omega)]
theorem cosF_end (cs : List Int) : (List.range cs.length).map (cosF cs cs.length 0) = cs := by
  apply List.ext_getElem
  · simp
  · intro i h1 h2
    simp only [List.getElem_map, List.getElem_range]
    unfold cosF
    rw [if_neg (by omega), if_pos h2, List.getD_eq_getElem?_getD, List.getElem?_eq_getElem h2]
    rfl
set_option maxRecDepth 100000 in
set_option maxHeartbeats 4000000 in
theorem costs_any (p : GProg) (nA : Option Addr) (nl nc : Nat) (sA : Option Addr) (sl sc : Nat) (rA : Option Addr) (rl rc : Nat) (mA : Option Addr) (ml mc : Nat) (xA : Option Addr) (xl xc : Nat) (m : List Int) (w : World) (hp : ProgIn w p nA nl nc sA sl sc rA rl rc mA ml mc) (hm : SlIs intR w xA xl xc m) (hok : ∀ l ∈ p.min, LevOk l) :
    Calls Tryz.prog 36 #[.agg #[.int .i64 p.n, .slice nA nl nc, .slice sA sl sc, .slice rA rl rc, .slice mA ml mc], .slice xA xl xc] w fun e w' => ∃ A l c, e = .returned (.slice A l c) ∧ SlIs intR w' A l c (costL p m) ∧ Below w.heap.size w w' := by
  have hmc := hp.min.cap
  have hmm := hp.min.max
  have hms := hp.min.small
  have hmn := hp.min.len
  have hcl : (costL p m).length = ml := by rw [hmn]; simp [costL]
  have hcg : ∀ (k : Nat) (l : GMin), p.min[k]? = some l → (costL p m)[k]? = some (sumT l.lits l.w m) := fun k l h => by simp [costL, h]
  have hmk := make_int ml hms
  have hcb : ∀ k, I64 (cosF (costL p m) ml 0 k) := fun k => by
    unfold cosF
    split
    · simp [I64]
    · split
      · rename_i h1 h2
        obtain ⟨l, hl⟩ : ∃ l, p.min[k]? = some l := ⟨_, List.getElem?_eq_getElem (show k < p.min.length by omega)⟩
        have h3 := sumT_take_bd m (hok l (List.mem_of_getElem? hl)) (max l.lits.length l.w.length)
        rw [List.take_of_length_le (by omega), List.take_of_length_le (by omega)] at h3
        rw [List.getD_eq_getElem?_getD, hcg k l hl]
        unfold I64; simp; omega
      · simp [I64]
  have hce := cosF_end (costL p m)
  rw [hcl] at hce
  generalize costL p m = cs at *
  have HP := Lib.hid hp; clear hp
  have HM := Lib.hid hm; clear hm
  have HCL := Lib.hid hcl; clear hcl
  have HCG := Lib.hid hcg; clear hcg
  have HCB := Lib.hid hcb; clear hcb
  have HMN := Lib.hid hmn; clear hmn
  have HOK := Lib.hid hok; clear hok
  have HCE := Lib.hid hce; clear hce
  go_enter Tryz.func36, Tryz.ntmps36
  go_wp2_with fail
  have hb0 := ((Blk.new w 27 #[.int .i64 p.n, .slice nA nl nc, .slice sA sl sc, .slice rA rl rc, .slice mA ml mc]).alloc (.cells (fnCells ml (fun _ => 0)) 3))
  have ho0 := blk_new (g := w.heap.size + 1) (w := w.alloc (.cells #[.int .i64 p.n, .slice nA nl nc, .slice sA sl sc, .slice rA rl rc, .slice mA ml mc] 27)) (by simp) 3 (fnCells ml (fun _ => 0))
  have hbw0 := bel_trans (bel_alloc w (.cells #[.int .i64 p.n, .slice nA nl nc, .slice sA sl sc, .slice rA rl rc, .slice mA ml mc] 27)) (bel_alloc _ (.cells (fnCells ml (fun _ => 0)) 3))
  generalize (w.alloc (.cells #[.int .i64 p.n, .slice nA nl nc, .slice sA sl sc, .slice rA rl rc, .slice mA ml mc] 27)).alloc (.cells (fnCells ml (fun _ => 0)) 3) = W0 at *
  rw [cosF_zero cs] at ho0
  have HB0 := Lib.hid hb0; clear hb0
  have HO0 := Lib.hid ho0; clear ho0
  have HBW0 := Lib.hid hbw0; clear hbw0
  clear hmk
  go_loopw [17] (fun t wr => ∃ (k : Nat), k ≤ ml ∧ t = .int .i64 (k : Int) ∧ Blk wr (w.heap.size + 1) 3 (fnCells ml (cosF cs k 0)) ∧ Kept [w.heap.size + 1] W0 wr) (fun t _ => ml - (intOf t).toNat)
  case atStart => exact ⟨0, Nat.zero_le _, rfl, HO0.out, Kept.refl _ _⟩
  case round =>
    obtain ⟨wo, rfl⟩ : ∃ wo : World, wo = wr := ⟨_, rfl⟩
    obtain ⟨k, hk, rfl, hbo, hkp⟩ := hrel
    have HB := Lib.hid (Kept.below HBW0.out hkp HBW0.out.size (fun q hq => by simp at hq; omega))
    by_cases hlt : k < ml
    · obtain ⟨l, hx, -⟩ := HP.out.min.drop hlt
      have hlo := HOK.out l (List.mem_of_getElem? hx)
      have hcx := HCG.out k l hx
      obtain ⟨b, off, bA, bl, bc, yA, yl, yc, rfl, hbl0, e0, e1, e2, g1, g2, g3⟩ := HP.out.min.min hx
      have f0 := (HB.out.cell (p := ⟨b, off + k * 3, none⟩) hbl0).trans e0
      have f1 := (HB.out.cell (p := ⟨b, off + k * 3 + 1, none⟩) hbl0).trans e1
      have f2 := (HB.out.cell (p := ⟨b, off + k * 3 + 2, none⟩) hbl0).trans e2
      clear e0 e1 e2
      have k0 : (0 : Int) ≤ (k : Int) := by omega
      have k1 : (k : Int) < (ml : Int) := by omega
      have hbc := g2.cap
      have hbm := g2.max
      have hbl := g2.len
      have hyl := g3.len
      have HX := Lib.hid hx; clear hx
      have HLO := Lib.hid hlo; clear hlo
      have HCX := Lib.hid hcx; clear hcx
      have G1 := Lib.hid g1; clear g1
      have G2 := Lib.hid g2; clear g2
      have G3 := Lib.hid g3; clear g3
      have HBO := Lib.hid hbo; clear hbo
      have HKP := Lib.hid hkp; clear hkp
      have HBL := Lib.hid hbl; clear hbl
      have HYL := Lib.hid hyl; clear hyl
      go_wp2_with fail
      have q0 := HBO.out.alloc (.cells #[.int .i64 l.level, .slice bA bl bc, .slice yA yl yc] 38)
      have q1 := Blk.new wo 38 #[.int .i64 l.level, .slice bA bl bc, .slice yA yl yc]
      have q2 := HKP.out.alloc (.cells #[.int .i64 l.level, .slice bA bl bc, .slice yA yl yc] 38)
      have hg0 : w.heap.size + 1 < wo.heap.size := HBO.out.lt
      obtain ⟨g7, hg7⟩ : ∃ g7, g7 = wo.heap.size := ⟨_, rfl⟩
      rw [← hg7] at q1
      rw [← hg7]
      generalize wo.alloc (.cells #[.int .i64 l.level, .slice bA bl bc, .slice yA yl yc] 38) = W1 at *
      have Q0 := Lib.hid q0; clear q0
      have Q1 := Lib.hid q1; clear q1
      have Q2 := Lib.hid q2; clear q2
      have HG7 := Lib.hid hg7; clear hg7
      clear f0 f1 f2
      go_loopw [25] (fun t wq => ∃ (j : Nat), j ≤ bl ∧ t = .int .i64 (j : Int) ∧ Blk wq (w.heap.size + 1) 3 (fnCells ml (cosF cs k (sumT (l.lits.take j) (l.w.take j) m))) ∧ Blk wq g7 38 #[.int .i64 l.level, .slice bA bl bc, .slice yA yl yc] ∧ Kept [w.heap.size + 1] W0 wq ∧ Kept [w.heap.size + 1] W1 wq) (fun t _ => bl - (intOf t).toNat)
      case atStart => exact ⟨0, Nat.zero_le _, rfl, Q0.out, Q1.out, Q2.out, Kept.refl _ _⟩
      case round =>
        obtain ⟨j, hj, rfl, z0, z1, z2, z3⟩ := hrel
        have HBq := Lib.hid (Kept.below HBW0.out z2 HBW0.out.size (fun q hq => by simp at hq; omega))
        by_cases hlt2 : j < bl
        · obtain ⟨x, hj0, -⟩ := G2.out.drop hlt2
          obtain ⟨y, hj1, -⟩ := G3.out.drop (k := j) (by rw [HYL.out, HLO.out.len, ← HBL.out]; exact hlt2)
          have hjy : j < yl := by rw [HYL.out, HLO.out.len, ← HBL.out]; exact hlt2
          obtain ⟨xb, xo, rfl, _, cx, _⟩ := (G2.out.ext HBq.out).int hj0
          obtain ⟨yb, yo, rfl, _, cy, _⟩ := (G3.out.ext HBq.out).int hj1
          have hxb := HLO.out.lit x (List.mem_of_getElem? hj0)
          have hst := sumT_step m hj0 hj1
          have ht0 := sumT_take_bd m HLO.out j
          have ht1 := sumT_take_bd m HLO.out (j + 1)
          have htr := true_max hxb.1 m
          have cC := containsI_any xA xl xc m (max x (-x)) wr (HM.out.ext HBq.out)
          generalize hs1 : sumT (l.lits.take (j + 1)) (l.w.take (j + 1)) m = s1 at *
          have HS1 := Lib.hid hs1
          clear hs1
          generalize hs0 : sumT (l.lits.take j) (l.w.take j) m = s0 at *
          generalize decide (max x (-x) ∈ m) = cb at *
          have HS0 := Lib.hid hs0
          clear hs0
          have c0 : wr.cell? ⟨w.heap.size + 1, k, none⟩ = some (.int .i64 s0) := by rw [z0.cell, fnCells_get _ _ _ hlt]; simp [cosF]
          have c1 : wr.frozen? ⟨w.heap.size + 1, k, none⟩ = false := z0.frozen k
          have c2 : wr.cell? ⟨g7, 2, none⟩ = some (.slice (some ⟨yb, yo, none⟩) yl yc) := z1.cell 2
          have j0 : (0 : Int) ≤ (j : Int) := by omega
          have j1 : (j : Int) < (bl : Int) := by omega
          have j2 : (j : Int) < (yl : Int) := by omega
          have n1 : x ≠ -9223372036854775808 := by omega
          have hyc := G3.out.cap
          have hym := G3.out.max
          cases htv : trueB x m with
          | true =>
            rw [htv] at htr hst
            simp only [if_true] at hst
            have es : s0 + y = s1 := by omega
            clear hst
            have Z0 := Lib.hid z0; clear z0
            have Z1 := Lib.hid z1; clear z1
            have Z2 := Lib.hid z2; clear z2
            have Z3 := Lib.hid z3; clear z3
            have HJ0 := Lib.hid hj0; clear hj0
            have HJ1 := Lib.hid hj1; clear hj1
            have CC := Lib.hid cC; clear cC
            go_wp2_with fail
            go_fit CC.out; rintro e w' ⟨rfl, rfl⟩
            go_wp2_with fail
            refine wp_region_tail 11 [(⟨w.heap.size + 1, k, none⟩, .int .i64 s0), (⟨g7, 2, none⟩, .slice (some ⟨yb, yo, none⟩) yl yc), (⟨yb, yo + j, none⟩, .int .i64 y)] (by kernel_rfl) (by kernel_rfl) (by simp [go_sem, *]) ?_
            intro X hk hX; simp only [List.forall_mem_cons] at hk; obtain ⟨kt0, kt1, kt2, kz⟩ := hk; clear kz
            simp only [List.take_succ_cons, List.take_zero, List.drop_succ_cons, List.drop_zero]
            repeat go_big_quiet_step (fail)
            refine wpQuiet_nil ?_
            have fX : X.frozen? ⟨w.heap.size + 1, k, none⟩ = false := by rw [hX]; exact c1
            have y0 : Blk X (w.heap.size + 1) 3 (fnCells ml (cosF cs k s0)) := by rw [hX]; exact Z0.out.drew
            have ze := (y0.set_ k (.int .i64 s1))
            rw [fnCells_set, cosF_set] at ze
            have y1 := Z1.out.drew
            rw [← hX] at y1
            have zf := y1.far (p := ⟨w.heap.size + 1, k, none⟩) (by simp; have := HG7.out; omega) (.int .i64 s1)
            have y2 : Kept [w.heap.size + 1] W0 X := by rw [hX]; exact Z2.out.drew
            have zg := y2.set (p := ⟨w.heap.size + 1, k, none⟩) (.inl (by simp)) (.int .i64 s1)
            have y3 : Kept [w.heap.size + 1] W1 X := by rw [hX]; exact Z3.out.drew
            have zh := y3.set (p := ⟨w.heap.size + 1, k, none⟩) (.inl (by simp)) (.int .i64 s1)
            clear hX
            have Y0 := Lib.hid y0; clear y0
            have Y1 := Lib.hid y1; clear y1
            have Y2 := Lib.hid y2; clear y2
            have Y3 := Lib.hid y3; clear y3
            have ZE := Lib.hid ze; clear ze
            have ZF := Lib.hid zf; clear zf
            have ZG := Lib.hid zg; clear zg
            have ZH := Lib.hid zh; clear zh
            go_wp2_with fail
            go_roundw
            case rel => exact ⟨j + 1, by omega, by go_num, by rw [HS1.out]; exact ZE.out, ZF.out, ZG.out, ZH.out⟩
            case measure => simp [intOf]; omega
          | false =>
            rw [htv] at htr hst
            simp only [Bool.false_eq_true, if_false, Int.add_zero] at hst
            have ES := Lib.hid hst
            subst hst
            have Z0 := Lib.hid z0; clear z0
            have Z1 := Lib.hid z1; clear z1
            have Z2 := Lib.hid z2; clear z2
            have Z3 := Lib.hid z3; clear z3
            have HJ0 := Lib.hid hj0; clear hj0
            have HJ1 := Lib.hid hj1; clear hj1
            have CC := Lib.hid cC; clear cC
            go_wp2_with fail
            go_fit CC.out; rintro e w' ⟨rfl, rfl⟩
            go_wp2_with fail
            go_roundw
            case rel => exact ⟨j + 1, by omega, by go_num, by rw [HS1.out]; exact Z0.out, Z1.out, Z2.out, Z3.out⟩
            case measure => simp [intOf]; omega
        · have hjb : j = bl := by omega
          rw [hjb, HBL.out, List.take_of_length_le (Nat.le_refl _), List.take_of_length_le (by rw [HLO.out.len]; exact Nat.le_refl _), cosF_next HCX.out] at z0
          have Z0 := Lib.hid z0; clear z0
          have Z1 := Lib.hid z1; clear z1
          have Z2 := Lib.hid z2; clear z2
          have Z3 := Lib.hid z3; clear z3
          go_wp2_with fail
          go_roundw
          case rel => exact ⟨k + 1, by omega, by go_num, Z0.out, Z2.out⟩
          case measure => simp [intOf]; omega
    · obtain rfl : ml = k := by omega
      have hsl := sl_of_blk hbo HP.out.min.small (fun i _ => HCB.out i)
      rw [HCE.out] at hsl
      have HBO := Lib.hid hbo; clear hbo
      have HKP := Lib.hid hkp; clear hkp
      have HSL := Lib.hid hsl; clear hsl
      go_wp2_with fail
      go_ret
      exact ⟨_, _, _, rfl, HSL.out, HB.out⟩
def costsE (p : GProg) (m : List Int) : List Int := if checkE p m = 0 then costL p m else []
theorem valid_ok {p : GProg} (h : validE p = 0) : minGoE p.n none p.min = true ∧ 0 ≤ p.n ∧ p.n ≤ 4000 := by
  unfold validE at h
  split at h
  · cases h
  · rename_i h1
    have := namedB_n (by simpa using h1)
    split at h
    · cases h
    · split at h
      · rename_i h2; exact absurd h h2
      · split at h
        · cases h
        · split at h
          · cases h
          · rename_i h3; exact ⟨by simpa using h3, this⟩
theorem valid_lev {p : GProg} (h : validE p = 0) : ∀ l ∈ p.min, LevOk l := minGoE_ok (valid_ok h).2.2 _ _ (valid_ok h).1
set_option maxRecDepth 100000 in
set_option maxHeartbeats 4000000 in
theorem stableCosts_any (p : GProg) (nA : Option Addr) (nl nc : Nat) (sA : Option Addr) (sl sc : Nat) (rA : Option Addr) (rl rc : Nat) (mA : Option Addr) (ml mc : Nat) (xA : Option Addr) (xl xc : Nat) (m : List Int) (w : World) (hp : ProgIn w p nA nl nc sA sl sc rA rl rc mA ml mc) (hm : SlIs intR w xA xl xc m) :
    Calls Tryz.prog 11 #[.agg #[.int .i64 p.n, .slice nA nl nc, .slice sA sl sc, .slice rA rl rc, .slice mA ml mc], .slice xA xl xc] w fun e w' => ∃ A l c, e = .returned (.tuple #[.slice A l c, .int .i64 (checkE p m)]) ∧ SlIs intR w' A l c (costsE p m) ∧ Below w.heap.size w w' := by
  have hce : checkE p m = checkE p m := rfl
  conv at hce => rhs; unfold checkE
  have hcs : costsE p m = costsE p m := rfl
  conv at hcs => rhs; unfold costsE
  have cV := fun W (hb : Below w.heap.size w W) => valid_any p nA nl nc sA sl sc rA rl rc mA ml mc W (hp.ext hb)
  have cS := fun W (hb : Below w.heap.size w W) => set_any xA xl xc m p.n W (hm.ext hb)
  have cC := fun (h : validE p = 0) W (hb : Below w.heap.size w W) => costs_any p nA nl nc sA sl sc rA rl rc mA ml mc xA xl xc m W (hp.ext hb) (hm.ext hb) (valid_lev h)
  by_cases hv : validE p = 0
  · have cC2 := cC hv
    rw [if_neg (by simpa using hv)] at hce
    rw [hv] at cV
    cases hz : incB p.n m with
    | true =>
      rw [hz, if_neg (by simp)] at hce
      rw [hz] at cS
      rw [hce, if_pos rfl] at hcs
      rw [hce, hcs]
      clear hce hcs cC
      have HP := Lib.hid hp; clear hp
      have HM := Lib.hid hm; clear hm
      have HV := Lib.hid hv; clear hv
      have HZ := Lib.hid hz; clear hz
      have CV := Lib.hid cV; clear cV
      have CS := Lib.hid cS; clear cS
      have CC2 := Lib.hid cC2; clear cC2
      go_enter Tryz.func11, Tryz.ntmps11
      go_wp2_with fail
      go_fit (CV.out _ (bel_alloc _ _)); rintro e w1 ⟨rfl, hb1⟩
      have hx1 := (Blk.new w 27 #[.int .i64 p.n, .slice nA nl nc, .slice sA sl sc, .slice rA rl rc, .slice mA ml mc]).bel hb1
      obtain ⟨p0, p1, p2, p3, p4, p5⟩ := pcells hx1
      have HB1 := Lib.hid (bel_trans (bel_alloc _ _) hb1)
      clear hb1
      have HX1 := Lib.hid hx1; clear hx1
      go_wp2_with fail
      go_fit (CS.out _ HB1.out); rintro e w2 ⟨rfl, rfl⟩
      go_wp2_with fail
      go_fit (CC2.out _ HB1.out); rintro e w3 ⟨A, l, c, rfl, hs, hb3⟩
      have HB3 := Lib.hid (bel_trans HB1.out hb3)
      clear hb3
      have HS := Lib.hid hs; clear hs
      go_wp2_with fail
      go_ret2
      exact ⟨_, _, _, rfl, HS.out, HB3.out⟩
    | false =>
      rw [hz, if_pos rfl] at hce
      rw [hz] at cS
      rw [hce, if_neg (by simp)] at hcs
      rw [hce, hcs]
      clear hce hcs cC cC2
      have HP := Lib.hid hp; clear hp
      have HM := Lib.hid hm; clear hm
      have HV := Lib.hid hv; clear hv
      have HZ := Lib.hid hz; clear hz
      have CV := Lib.hid cV; clear cV
      have CS := Lib.hid cS; clear cS
      go_enter Tryz.func11, Tryz.ntmps11
      go_wp2_with fail
      go_fit (CV.out _ (bel_alloc _ _)); rintro e w1 ⟨rfl, hb1⟩
      have hx1 := (Blk.new w 27 #[.int .i64 p.n, .slice nA nl nc, .slice sA sl sc, .slice rA rl rc, .slice mA ml mc]).bel hb1
      obtain ⟨p0, p1, p2, p3, p4, p5⟩ := pcells hx1
      have HB1 := Lib.hid (bel_trans (bel_alloc _ _) hb1)
      clear hb1
      have HX1 := Lib.hid hx1; clear hx1
      go_wp2_with fail
      go_fit (CS.out _ HB1.out); rintro e w2 ⟨rfl, rfl⟩
      go_wp2_with fail
      go_ret2
      exact ⟨_, _, _, rfl, SlIs.nil _ _, HB1.out⟩
  · rw [if_pos hv] at hce
    rw [hce, if_neg hv] at hcs
    rw [hce, hcs]
    generalize validE p = v at *
    have q1 : (v != 0) = true := by simpa using hv
    clear hce hcs cC cS
    have HP := Lib.hid hp; clear hp
    have HM := Lib.hid hm; clear hm
    have HV := Lib.hid hv; clear hv
    have CV := Lib.hid cV; clear cV
    go_enter Tryz.func11, Tryz.ntmps11
    go_wp2_with fail
    go_fit (CV.out _ (bel_alloc _ _)); rintro e w1 ⟨rfl, hb1⟩
    have HB1 := Lib.hid (bel_trans (bel_alloc _ _) hb1)
    clear hb1
    go_wp2_with fail
    go_ret2
    exact ⟨_, _, _, rfl, SlIs.nil _ _, HB1.out⟩
end Go.Proofs.YtdkjanbfheehoaaGreat

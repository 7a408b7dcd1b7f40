/- The law StableBest: it answers true and changes nothing that was there. -/
import Derived.Test.YtfopcpmckplemaaSl3
import Derived.Test.YtfopcpmckplemaaOgn
namespace Go.Proofs.Ytfopcpmckplemaa
open Go.RowKit

theorem bestStep_ne {c : List Int → List Int} {s : List (List Int) × List Int} (m : List Int) (h : s.1 ≠ []) : (bestStep c s m).1 ≠ [] := by
  unfold bestStep
  split
  · simp [betB_irrefl]
  · simp only []
    split
    · exact h
    · simp
theorem best_ne0 {c : List Int → List Int} : ∀ (l : List (List Int)) (s : List (List Int) × List Int), s.1 ≠ [] → (l.foldl (bestStep c) s).1 ≠ []
  | [], _, h => h
  | m :: t, _, h => best_ne0 t _ (bestStep_ne m h)
theorem best_ne {c : List Int → List Int} {all : List (List Int)} (h : all ≠ []) : (bestL c all).1 ≠ [] := by
  match all, h with
  | m :: t, _ =>
    show ((m :: t).foldl (bestStep c) ([], c m)).1 ≠ []
    rw [List.foldl_cons]
    refine best_ne0 t _ ?_
    unfold bestStep
    simp [betB_irrefl]
/-- What the law says of the best ones. -/
structure BestLaw (p : GProg) (all : List (List Int)) (cf : List Int → List Int) (out : List (List Int)) (best : List Int) : Prop where
  nil : out = [] ↔ all = []
  mem : ∀ m ∈ all, checkE p m = 0 ∧ costsE p m = cf m ∧ betB (cf m) best = false
  out : out = all.filter fun m => decide (cf m = best)
theorem best_law {p : GProg} (hv : validE p = 0) (hs : SmallP p) : BestLaw p (allL p) (costL p) (bestL (costL p) (allL p)).1 (bestL (costL p) (allL p)).2 := by
  have hc : ∀ m ∈ allL p, checkE p m = 0 := fun m hm => check_of hv ((all_mem p hs.n0 m).1 hm).1
  by_cases h : allL p = []
  · rw [h]
    exact ⟨by simp [bestL], by simp, by simp [bestL]⟩
  · have hb := best_is (fun m => cost_len p m) (allL p) h
    exact ⟨⟨fun h1 => absurd h1 (best_ne h), fun h1 => absurd h1 h⟩, fun m hm => ⟨hc m hm, by unfold costsE; rw [hc m hm]; rfl, hb.least m hm⟩, hb.out⟩

set_option maxRecDepth 100000 in
set_option maxHeartbeats 4000000 in
theorem stableBest_law (p : GProg) (nA : Option Addr) (nl nc : Nat) (sA : Option Addr) (sl sc : Nat) (rA : Option Addr) (rl rc : Nat) (mA : Option Addr) (ml mc : Nat) (xA : Option Addr) (xl xc : Nat) (yA : Option Addr) (yl yc : Nat) (zA : Option Addr) (zl zc : Nat) (xs ys zs : List Int) (w : World) (hp : ProgIn w p nA nl nc sA sl sc rA rl rc mA ml mc) (hx : SlIs intR w xA xl xc xs) (hy : SlIs intR w yA yl yc ys) (hz : SlIs intR w zA zl zc zs) :
    Calls Try.prog 6 #[.agg #[.int .i64 p.n, .slice nA nl nc, .slice sA sl sc, .slice rA rl rc, .slice mA ml mc], .slice xA xl xc, .slice yA yl yc, .slice zA zl zc] w fun e w' => e = .returned (.bool true) ∧ Below w.heap.size w w' := by
  have cS := fun W (hb : Below w.heap.size w W) => small_any p nA nl nc sA sl sc rA rl rc mA ml mc W (hp.ext hb)
  have cA := awake20_any
  have hxl := hx.len
  have hyl := hy.len
  have hzl := hz.len
  have hxc := hx.cap
  have hxm := hx.max
  have hyc := hy.cap
  have hym := hy.max
  have hzc := hz.cap
  have hzm := hz.max
  have hxs := hx.small
  have hys := hy.small
  have hzs := hz.small
  have early : ∀ (q : Bool), smallB p = q → (q = false ∨ (50 < xl ∨ yl ≠ xl ∨ zl ≠ xl)) → Calls Try.prog 6 #[.agg #[.int .i64 p.n, .slice nA nl nc, .slice sA sl sc, .slice rA rl rc, .slice mA ml mc], .slice xA xl xc, .slice yA yl yc, .slice zA zl zc] w fun e w' => e = .returned (.bool true) ∧ Below w.heap.size w w' := by
    intro q hq hor
    rw [hq] at cS
    clear hxl hyl hzl
    cases q with
    | false =>
      clear hor
      have HP := Lib.hid hp; clear hp
      have HX := Lib.hid hx; clear hx
      have HY := Lib.hid hy; clear hy
      have HZ := Lib.hid hz; clear hz
      have HQ := Lib.hid hq; clear hq
      have CS := Lib.hid cS; clear cS
      have CA := Lib.hid cA; clear cA
      go_enter Try.func6, Try.ntmps6
      go_wp2_with fail
      go_fit (CS.out _ (bel_alloc _ _)); rintro e w1 ⟨rfl, hb1⟩
      have HB1 := Lib.hid (bel_trans (bel_alloc _ _) hb1)
      clear hb1
      go_wp2_with fail
      go_fit (CA.out _); rintro e w2 ⟨rfl, hb2⟩
      have HB2 := Lib.hid (bel_trans HB1.out hb2)
      clear hb2
      go_wp2_with fail
      go_ret
      exact ⟨rfl, HB2.out⟩
    | true =>
      have hor : 50 < xl ∨ yl ≠ xl ∨ zl ≠ xl := by simpa using hor
      by_cases h50 : 50 < xl
      · have q1 : (50 : Int) < (xl : Int) := by omega
        clear hor
        have HP := Lib.hid hp; clear hp
        have HX := Lib.hid hx; clear hx
        have HY := Lib.hid hy; clear hy
        have HZ := Lib.hid hz; clear hz
        have HQ := Lib.hid hq; clear hq
        have CS := Lib.hid cS; clear cS
        have CA := Lib.hid cA; clear cA
        go_enter Try.func6, Try.ntmps6
        go_wp2_with fail
        go_fit (CS.out _ (bel_alloc _ _)); rintro e w1 ⟨rfl, hb1⟩
        have HB1 := Lib.hid (bel_trans (bel_alloc _ _) hb1)
        clear hb1
        go_wp2_with fail
        go_fit (CA.out _); rintro e w2 ⟨rfl, hb2⟩
        have HB2 := Lib.hid (bel_trans HB1.out hb2)
        clear hb2
        go_wp2_with fail
        go_ret
        exact ⟨rfl, HB2.out⟩
      · have q1 : ¬ (50 : Int) < (xl : Int) := by omega
        by_cases hxy : yl = xl
        · have hxz : zl ≠ xl := by omega
          subst hxy
          have q3 : ((zl : Int) != (yl : Int)) = true := by simp; omega
          clear hor
          have HP := Lib.hid hp; clear hp
          have HX := Lib.hid hx; clear hx
          have HY := Lib.hid hy; clear hy
          have HZ := Lib.hid hz; clear hz
          have HQ := Lib.hid hq; clear hq
          have CS := Lib.hid cS; clear cS
          have CA := Lib.hid cA; clear cA
          have HXZ := Lib.hid hxz; clear hxz
          go_enter Try.func6, Try.ntmps6
          go_wp2_with fail
          go_fit (CS.out _ (bel_alloc _ _)); rintro e w1 ⟨rfl, hb1⟩
          have HB1 := Lib.hid (bel_trans (bel_alloc _ _) hb1)
          clear hb1
          go_wp2_with fail
          go_fit (CA.out _); rintro e w2 ⟨rfl, hb2⟩
          have HB2 := Lib.hid (bel_trans HB1.out hb2)
          clear hb2
          go_wp2_with fail
          go_ret
          exact ⟨rfl, HB2.out⟩
        · have q3 : ((yl : Int) != (xl : Int)) = true := by simp; omega
          clear hor
          have HP := Lib.hid hp; clear hp
          have HX := Lib.hid hx; clear hx
          have HY := Lib.hid hy; clear hy
          have HZ := Lib.hid hz; clear hz
          have HQ := Lib.hid hq; clear hq
          have CS := Lib.hid cS; clear cS
          have CA := Lib.hid cA; clear cA
          have HXY := Lib.hid hxy; clear hxy
          go_enter Try.func6, Try.ntmps6
          go_wp2_with fail
          go_fit (CS.out _ (bel_alloc _ _)); rintro e w1 ⟨rfl, hb1⟩
          have HB1 := Lib.hid (bel_trans (bel_alloc _ _) hb1)
          clear hb1
          go_wp2_with fail
          go_fit (CA.out _); rintro e w2 ⟨rfl, hb2⟩
          have HB2 := Lib.hid (bel_trans HB1.out hb2)
          clear hb2
          go_wp2_with fail
          go_ret
          exact ⟨rfl, HB2.out⟩
  by_cases hor : smallB p = false ∨ (50 < xl ∨ yl ≠ xl ∨ zl ≠ xl)
  · exact early _ rfl hor
  clear early
  obtain ⟨hsm, h50, hxy, hxz⟩ : smallB p = true ∧ ¬ 50 < xl ∧ yl = xl ∧ zl = xl := by
    cases h : smallB p with
    | false => exact absurd (.inl h) hor
    | true => refine ⟨rfl, ?_, ?_, ?_⟩ <;> (refine Decidable.byContradiction fun hh => hor (.inr ?_)) <;> omega
  clear hor
  rw [hsm] at cS
  obtain rfl : yl = xl := hxy
  obtain rfl : yl = zl := hxz.symm
  have b1 := betB_irrefl xs
  have lxy : xs.length = ys.length := by omega
  have lyz : ys.length = zs.length := by omega
  have bt := fun h1 h2 => betB_trans xs ys zs h1 h2 lxy lyz
  have ba := betB_asymm xs ys
  have hv := (small_is hsm).2.2
  have hP := small_P hsm
  have L := Lib.hid (best_law hv hP)
  have cAll := fun W (hb : Below w.heap.size w W) => all_any p nA nl nc sA sl sc rA rl rc mA ml mc W (hp.ext hb) hv hP
  have cBest := fun W (hb : Below w.heap.size w W) => stableBest_any p nA nl nc sA sl sc rA rl rc mA ml mc W (hp.ext hb) hv hP
  have cCost := fun A l c m W (hb : Below w.heap.size w W) h => stableCosts_any p nA nl nc sA sl sc rA rl rc mA ml mc A l c m W (hp.ext hb) h
  have h12 := hP.all_le
  have cXX := fun W (hb : Below w.heap.size w W) => better_any xA yl xc xA yl xc xs xs W (hx.ext hb) (hx.ext hb)
  have cXY := fun W (hb : Below w.heap.size w W) => better_any xA yl xc yA yl yc xs ys W (hx.ext hb) (hy.ext hb)
  have cYZ := fun W (hb : Below w.heap.size w W) => better_any yA yl yc zA yl zc ys zs W (hy.ext hb) (hz.ext hb)
  have cXZ := fun W (hb : Below w.heap.size w W) => better_any xA yl xc zA yl zc xs zs W (hx.ext hb) (hz.ext hb)
  have cYX := fun W (hb : Below w.heap.size w W) => better_any yA yl yc xA yl xc ys xs W (hy.ext hb) (hx.ext hb)
  rw [b1] at cXX
  generalize bestL (costL p) (allL p) = bst at *
  obtain ⟨out, best⟩ := bst
  generalize costL p = cf at *
  generalize allL p = all at *
  clear hxl hyl hzl lxy lyz b1
  generalize betB xs ys = qxy at *
  generalize betB ys zs = qyz at *
  generalize betB xs zs = qxz at *
  generalize betB ys xs = qyx at *
  have q1 : ¬ (50 : Int) < (yl : Int) := by omega
  have q2 : ((yl : Int) != (yl : Int)) = false := by simp
  change Hid (BestLaw p all cf out best) at L
  have HP := Lib.hid hp; clear hp
  have HX := Lib.hid hx; clear hx
  have HY := Lib.hid hy; clear hy
  have HZ := Lib.hid hz; clear hz
  have CS := Lib.hid cS; clear cS
  have CA := Lib.hid cA; clear cA
  have CALL := Lib.hid cAll; clear cAll
  have CBEST := Lib.hid cBest; clear cBest
  have CCOST := Lib.hid cCost; clear cCost
  have CXX := Lib.hid cXX; clear cXX
  have CXY := Lib.hid cXY; clear cXY
  have CYZ := Lib.hid cYZ; clear cYZ
  have CXZ := Lib.hid cXZ; clear cXZ
  have CYX := Lib.hid cYX; clear cYX
  have HSM := Lib.hid hsm; clear hsm
  have HV := Lib.hid hv; clear hv
  have HP := Lib.hid hP; clear hP
  cases qxy with
  | true =>
    have hyx : qyx = false := ba rfl
    subst hyx
    cases qyz with
    | true =>
      have hxz : qxz = true := bt rfl rfl
      subst hxz
      clear ba bt
      go_enter Try.func6, Try.ntmps6
      go_wp2_with fail
      go_fit (CS.out _ (bel_alloc _ _)); rintro e w1 ⟨rfl, hb⟩
      have HX1 := Lib.hid ((Blk.new w 27 #[.int .i64 p.n, .slice nA nl nc, .slice sA sl sc, .slice rA rl rc, .slice mA ml mc]).bel hb)
      have HBW := Lib.hid (bel_trans (bel_alloc _ _) hb)
      clear hb
      obtain ⟨p0, p1, p2, p3, p4, p5⟩ := pcells HX1.out
      go_wp2_with fail
      go_fit (CXX.out _ HBW.out); rintro e w2 ⟨rfl, hb⟩
      replace HBW := Lib.hid (bel_trans HBW.out hb)
      replace HX1 := Lib.hid (HX1.out.bel hb)
      clear hb
      go_wp2_with fail
      go_fit (CXY.out _ HBW.out); rintro e w3 ⟨rfl, hb⟩
      replace HBW := Lib.hid (bel_trans HBW.out hb)
      replace HX1 := Lib.hid (HX1.out.bel hb)
      clear hb
      go_wp2_with fail
      go_fit (CYZ.out _ HBW.out); rintro e w4 ⟨rfl, hb⟩
      replace HBW := Lib.hid (bel_trans HBW.out hb)
      replace HX1 := Lib.hid (HX1.out.bel hb)
      clear hb
      go_wp2_with fail
      go_fit (CXZ.out _ HBW.out); rintro e w5 ⟨rfl, hb⟩
      replace HBW := Lib.hid (bel_trans HBW.out hb)
      replace HX1 := Lib.hid (HX1.out.bel hb)
      clear hb
      go_wp2_with fail
      go_fit (CXY.out _ HBW.out); rintro e w6 ⟨rfl, hb⟩
      replace HBW := Lib.hid (bel_trans HBW.out hb)
      replace HX1 := Lib.hid (HX1.out.bel hb)
      clear hb
      go_wp2_with fail
      go_fit (CYX.out _ HBW.out); rintro e w7 ⟨rfl, hb⟩
      replace HBW := Lib.hid (bel_trans HBW.out hb)
      replace HX1 := Lib.hid (HX1.out.bel hb)
      clear hb
      clear p0 p1 p2 p3 p4 p5
      obtain ⟨p0, p1, p2, p3, p4, p5⟩ := pcells HX1.out
      go_wp2_with fail
      go_fit (CALL.out _ HBW.out); rintro e v1 ⟨A, l, c, rfl, hl, hb⟩
      replace HBW := Lib.hid (bel_trans HBW.out hb)
      replace HX1 := Lib.hid (HX1.out.bel hb)
      clear hb
      clear p0 p1 p2 p3 p4 p5
      obtain ⟨p0, p1, p2, p3, p4, p5⟩ := pcells HX1.out
      have HL := Lib.hid hl; clear hl
      go_wp2_with fail
      go_fit (CBEST.out _ HBW.out); rintro e v2 ⟨oA, ol, oc, bA, bl, bc, rfl, ho, hq, hb⟩
      replace HBW := Lib.hid (bel_trans HBW.out hb)
      replace HX1 := Lib.hid (HX1.out.bel hb)
      replace HL := Lib.hid (HL.out.ext hb)
      clear hb
      clear p0 p1 p2 p3 p4 p5
      obtain ⟨p0, p1, p2, p3, p4, p5⟩ := pcells HX1.out
      have hll := HL.out.len
      have hol := ho.len
      have hlc := HL.out.cap
      have hlm := HL.out.max
      have hls := HL.out.small
      have hoc := ho.cap
      have hom := ho.max
      have heq : (!(((ol : Int) == 0) == ((l : Int) == 0))) = false := by
        have h1 := L.out.nil
        by_cases h0 : all = []
        · have h2 := h1.2 h0
          subst h0 h2
          rw [hll, hol]; rfl
        · have h2 : out ≠ [] := fun h => h0 (h1.1 h)
          have h3 : 0 < all.length := List.length_pos_iff.2 h0
          have h4 : 0 < out.length := List.length_pos_iff.2 h2
          rw [show ((ol : Int) == 0) = false from by simp; omega, show ((l : Int) == 0) = false from by simp; omega]; rfl
      have HO := Lib.hid ho; clear ho
      have HQ := Lib.hid hq; clear hq
      have HLL := Lib.hid hll; clear hll
      have HOL := Lib.hid hol; clear hol
      go_wp2_with fail
      go_loopw [14, 99] (fun v t wr => ∃ (k : Nat), k ≤ l ∧ t = .int .i64 (k : Int) ∧ OwnS wr v2.heap.size v ((all.take k).filter fun m => decide (cf m = best)) ∧ Below v2.heap.size v2 wr) (fun _ t _ => l - (intOf t).toNat)
      case atStart => exact ⟨0, Nat.zero_le _, rfl, by simpa using OwnS.nil _ _, Below.refl _ _⟩
      case round =>
        obtain ⟨k, hk, rfl, hw, hbw⟩ := hrel
        by_cases hlt : k < l
        · obtain ⟨m, hm, -⟩ := HL.out.drop hlt
          obtain ⟨hce, hco, hnb⟩ := L.out.mem m (List.mem_of_getElem? hm)
          have hft := filter_take (f := fun m => decide (cf m = best)) hm
          obtain ⟨ab, ao, mA', ml', mc', rfl, hab, cm1, sm1⟩ := HL.out.set hm
          have cm := (hbw.cell (p := ⟨ab, ao + k, none⟩) hab).trans cm1
          have hmb : 0 < ml' → ∀ ad, mA' = some ad → ad.block < v2.heap.size := fun h0 ad e => sm1.blk_lt h0 e
          have sm := sm1.ext hbw
          clear p0 p1 p2 p3 p4 p5
          have hx1 := HX1.out.bel hbw
          obtain ⟨p0, p1, p2, p3, p4, p5⟩ := pcells hx1
          have k0 : (0 : Int) ≤ (k : Int) := by omega
          have k1 : (k : Int) < (l : Int) := by omega
          have cCm := CCOST.out mA' ml' mc' m wr (bel_trans HBW.out hbw) sm
          rw [hce, hco] at cCm
          have cB1 : ∀ A l c W, SlIs intR W A l c (cf m) → SlIs intR W bA bl bc best → Calls Try.prog 20 #[.slice A l c, .slice bA bl bc] W fun e w' => e = .returned (.bool false) ∧ Below W.heap.size W w' := fun A l c W h1 h2 => by
            rw [← hnb]; exact better_any _ _ _ _ _ _ _ _ W h1 h2
          have hwz := hbw.size
          have hfl := List.length_filter_le (fun m => decide (cf m = best)) (all.take k)
          have htl : (all.take k).length ≤ k := List.length_take_le _ _
          have hk4 : k ≤ 4096 := by have := HLL.out; omega
          have hbq := HQ.out.ext hbw
          by_cases hq : cf m = best
          · have cI := fun A l c W h1 h2 => lawInts_any A l c bA bl bc (cf m) best W h1 h2
            rw [show decide (cf m = best) = true from decide_eq_true hq] at cI hft
            rw [if_pos rfl] at hft
            clear cm1
            have HBW_ := Lib.hid hbw
            clear hbw
            have HCE := Lib.hid hce; clear hce
            have HCO := Lib.hid hco; clear hco
            have HNB := Lib.hid hnb; clear hnb
            have HFT := Lib.hid hft; clear hft
            have HM := Lib.hid hm; clear hm
            have SM := Lib.hid sm; clear sm
            have SM1 := Lib.hid sm1; clear sm1
            have HMB := Lib.hid hmb; clear hmb
            have HW := Lib.hid hw; clear hw
            have HX1 := Lib.hid hx1; clear hx1
            have CCM := Lib.hid cCm; clear cCm
            have CB1 := Lib.hid cB1; clear cB1
            have HQ := Lib.hid hq; clear hq
            have CI := Lib.hid cI; clear cI
            have HBQ := Lib.hid hbq; clear hbq
            go_wp2_with fail
            go_fit CCM.out; rintro e w9 ⟨cA, cl, cc, rfl, hc, hb9⟩
            have HBX := Lib.hid hb9
            clear hb9
            have hq9 := HBQ.out.ext HBX.out
            clear p0 p1 p2 p3 p4 p5
            clear cm
            have HC := Lib.hid hc; clear hc
            have HQ9 := Lib.hid hq9; clear hq9
            go_wp2_with fail
            go_fit (CB1.out cA cl cc _ HC.out HQ9.out); rintro e wa ⟨rfl, hba⟩
            have hc2 := HC.out.ext hba
            have hq2 := HQ9.out.ext hba
            have HBY := Lib.hid (bel_trans HBX.out hba)
            clear hba
            have HC2 := Lib.hid hc2; clear hc2
            have HQ2 := Lib.hid hq2; clear hq2
            go_wp2_with fail
            go_fit (CI.out cA cl cc _ HC2.out HQ2.out); rintro e wb ⟨rfl, hbb⟩
            have hbz := bel_trans HBY.out hbb
            clear hbb
            have hbw5 := bel_trans HBW_.out hbz
            have ho5 := HW.out.bel hbz
            have hm5 := SM.out.ext hbz
            obtain ⟨v', w6, hrun, hown, hg6, hgb, hat⟩ := appOwnS ho5 hm5 HMB.out (by omega) hbw5.size 33
            have hb6 := bel_grown hbw5 hg6 hbw5.size hgb
            rw [← HFT.out] at hown
            clear hg6 hgb hat
            have HBZ := Lib.hid hbz; clear hbz
            have HBW5 := Lib.hid hbw5; clear hbw5
            have HO5 := Lib.hid ho5; clear ho5
            have HM5 := Lib.hid hm5; clear hm5
            have HRUN := Lib.hid hrun; clear hrun
            have HOWN := Lib.hid hown; clear hown
            have HB6 := Lib.hid hb6; clear hb6
            go_wp2_with (at_builtin; refine wpList_append_run rfl _ _ _ rfl _ _ rfl rfl _ _ HRUN.out ?_)
            go_roundw
            case rel => exact ⟨k + 1, by omega, by go_num, HOWN.out, HB6.out⟩
            case measure => simp [intOf]; omega
          · have cI := fun A l c W h1 h2 => lawInts_any A l c bA bl bc (cf m) best W h1 h2
            rw [show decide (cf m = best) = false from decide_eq_false hq] at cI hft
            rw [if_neg (by simp)] at hft
            clear cm1
            have HBW_ := Lib.hid hbw
            clear hbw
            have HCE := Lib.hid hce; clear hce
            have HCO := Lib.hid hco; clear hco
            have HNB := Lib.hid hnb; clear hnb
            have HFT := Lib.hid hft; clear hft
            have HM := Lib.hid hm; clear hm
            have SM := Lib.hid sm; clear sm
            have SM1 := Lib.hid sm1; clear sm1
            have HMB := Lib.hid hmb; clear hmb
            have HW := Lib.hid hw; clear hw
            have HX1 := Lib.hid hx1; clear hx1
            have CCM := Lib.hid cCm; clear cCm
            have CB1 := Lib.hid cB1; clear cB1
            have HQ := Lib.hid hq; clear hq
            have CI := Lib.hid cI; clear cI
            have HBQ := Lib.hid hbq; clear hbq
            go_wp2_with fail
            go_fit CCM.out; rintro e w9 ⟨cA, cl, cc, rfl, hc, hb9⟩
            have HBX := Lib.hid hb9
            clear hb9
            have hq9 := HBQ.out.ext HBX.out
            clear p0 p1 p2 p3 p4 p5
            clear cm
            have HC := Lib.hid hc; clear hc
            have HQ9 := Lib.hid hq9; clear hq9
            go_wp2_with fail
            go_fit (CB1.out cA cl cc _ HC.out HQ9.out); rintro e wa ⟨rfl, hba⟩
            have hc2 := HC.out.ext hba
            have hq2 := HQ9.out.ext hba
            have HBY := Lib.hid (bel_trans HBX.out hba)
            clear hba
            have HC2 := Lib.hid hc2; clear hc2
            have HQ2 := Lib.hid hq2; clear hq2
            go_wp2_with fail
            go_fit (CI.out cA cl cc _ HC2.out HQ2.out); rintro e wb ⟨rfl, hbb⟩
            have hbz := bel_trans HBY.out hbb
            clear hbb
            have hbw5 := bel_trans HBW_.out hbz
            have ho5 := HW.out.bel hbz
            rw [← HFT.out] at ho5
            have HBZ := Lib.hid hbz; clear hbz
            have HBW5 := Lib.hid hbw5; clear hbw5
            have HO5 := Lib.hid ho5; clear ho5
            go_wp2_with fail
            go_roundw
            case rel => exact ⟨k + 1, by omega, by go_num, HO5.out, HBW5.out⟩
            case measure => simp [intOf]; omega
        · obtain rfl : l = k := by omega
          rw [List.take_of_length_le (by rw [HLL.out]; exact Nat.le_refl _)] at hw
          have hfl := List.length_filter_le (fun m => decide (cf m = best)) all
          rw [← L.out.out] at hw hfl
          obtain ⟨zA', zc', rfl, hos⟩ := hw.sl (by omega)
          have ho9 := HO.out.ext hbw
          have HBX := Lib.hid hbw
          clear hbw
          have HW := Lib.hid hw; clear hw
          have HOS := Lib.hid hos; clear hos
          have HO9 := Lib.hid ho9; clear ho9
          go_wp2_with fail
          go_fit (lists_any _ _ _ _ _ _ out out _ HO9.out HOS.out); rintro e wx ⟨rfl, hb⟩
          rw [show decide (out = out) = true from by simp]
          have HBY := Lib.hid (bel_trans HBW.out (bel_trans HBX.out hb))
          clear hb
          go_wp2_with fail
          go_fit (CA.out _); rintro e wy ⟨rfl, hb⟩
          have HBZ := Lib.hid (bel_trans HBY.out hb)
          clear hb
          go_wp2_with fail
          go_ret
          exact ⟨rfl, HBZ.out⟩
    | false =>
      clear ba bt
      go_enter Try.func6, Try.ntmps6
      go_wp2_with fail
      go_fit (CS.out _ (bel_alloc _ _)); rintro e w1 ⟨rfl, hb⟩
      have HX1 := Lib.hid ((Blk.new w 27 #[.int .i64 p.n, .slice nA nl nc, .slice sA sl sc, .slice rA rl rc, .slice mA ml mc]).bel hb)
      have HBW := Lib.hid (bel_trans (bel_alloc _ _) hb)
      clear hb
      obtain ⟨p0, p1, p2, p3, p4, p5⟩ := pcells HX1.out
      go_wp2_with fail
      go_fit (CXX.out _ HBW.out); rintro e w2 ⟨rfl, hb⟩
      replace HBW := Lib.hid (bel_trans HBW.out hb)
      replace HX1 := Lib.hid (HX1.out.bel hb)
      clear hb
      go_wp2_with fail
      go_fit (CXY.out _ HBW.out); rintro e w3 ⟨rfl, hb⟩
      replace HBW := Lib.hid (bel_trans HBW.out hb)
      replace HX1 := Lib.hid (HX1.out.bel hb)
      clear hb
      go_wp2_with fail
      go_fit (CYZ.out _ HBW.out); rintro e w4 ⟨rfl, hb⟩
      replace HBW := Lib.hid (bel_trans HBW.out hb)
      replace HX1 := Lib.hid (HX1.out.bel hb)
      clear hb
      go_wp2_with fail
      go_fit (CXY.out _ HBW.out); rintro e w5 ⟨rfl, hb⟩
      replace HBW := Lib.hid (bel_trans HBW.out hb)
      replace HX1 := Lib.hid (HX1.out.bel hb)
      clear hb
      go_wp2_with fail
      go_fit (CYX.out _ HBW.out); rintro e w6 ⟨rfl, hb⟩
      replace HBW := Lib.hid (bel_trans HBW.out hb)
      replace HX1 := Lib.hid (HX1.out.bel hb)
      clear hb
      clear p0 p1 p2 p3 p4 p5
      obtain ⟨p0, p1, p2, p3, p4, p5⟩ := pcells HX1.out
      go_wp2_with fail
      go_fit (CALL.out _ HBW.out); rintro e v1 ⟨A, l, c, rfl, hl, hb⟩
      replace HBW := Lib.hid (bel_trans HBW.out hb)
      replace HX1 := Lib.hid (HX1.out.bel hb)
      clear hb
      clear p0 p1 p2 p3 p4 p5
      obtain ⟨p0, p1, p2, p3, p4, p5⟩ := pcells HX1.out
      have HL := Lib.hid hl; clear hl
      go_wp2_with fail
      go_fit (CBEST.out _ HBW.out); rintro e v2 ⟨oA, ol, oc, bA, bl, bc, rfl, ho, hq, hb⟩
      replace HBW := Lib.hid (bel_trans HBW.out hb)
      replace HX1 := Lib.hid (HX1.out.bel hb)
      replace HL := Lib.hid (HL.out.ext hb)
      clear hb
      clear p0 p1 p2 p3 p4 p5
      obtain ⟨p0, p1, p2, p3, p4, p5⟩ := pcells HX1.out
      have hll := HL.out.len
      have hol := ho.len
      have hlc := HL.out.cap
      have hlm := HL.out.max
      have hls := HL.out.small
      have hoc := ho.cap
      have hom := ho.max
      have heq : (!(((ol : Int) == 0) == ((l : Int) == 0))) = false := by
        have h1 := L.out.nil
        by_cases h0 : all = []
        · have h2 := h1.2 h0
          subst h0 h2
          rw [hll, hol]; rfl
        · have h2 : out ≠ [] := fun h => h0 (h1.1 h)
          have h3 : 0 < all.length := List.length_pos_iff.2 h0
          have h4 : 0 < out.length := List.length_pos_iff.2 h2
          rw [show ((ol : Int) == 0) = false from by simp; omega, show ((l : Int) == 0) = false from by simp; omega]; rfl
      have HO := Lib.hid ho; clear ho
      have HQ := Lib.hid hq; clear hq
      have HLL := Lib.hid hll; clear hll
      have HOL := Lib.hid hol; clear hol
      go_wp2_with fail
      go_loopw [14, 99] (fun v t wr => ∃ (k : Nat), k ≤ l ∧ t = .int .i64 (k : Int) ∧ OwnS wr v2.heap.size v ((all.take k).filter fun m => decide (cf m = best)) ∧ Below v2.heap.size v2 wr) (fun _ t _ => l - (intOf t).toNat)
      case atStart => exact ⟨0, Nat.zero_le _, rfl, by simpa using OwnS.nil _ _, Below.refl _ _⟩
      case round =>
        obtain ⟨k, hk, rfl, hw, hbw⟩ := hrel
        by_cases hlt : k < l
        · obtain ⟨m, hm, -⟩ := HL.out.drop hlt
          obtain ⟨hce, hco, hnb⟩ := L.out.mem m (List.mem_of_getElem? hm)
          have hft := filter_take (f := fun m => decide (cf m = best)) hm
          obtain ⟨ab, ao, mA', ml', mc', rfl, hab, cm1, sm1⟩ := HL.out.set hm
          have cm := (hbw.cell (p := ⟨ab, ao + k, none⟩) hab).trans cm1
          have hmb : 0 < ml' → ∀ ad, mA' = some ad → ad.block < v2.heap.size := fun h0 ad e => sm1.blk_lt h0 e
          have sm := sm1.ext hbw
          clear p0 p1 p2 p3 p4 p5
          have hx1 := HX1.out.bel hbw
          obtain ⟨p0, p1, p2, p3, p4, p5⟩ := pcells hx1
          have k0 : (0 : Int) ≤ (k : Int) := by omega
          have k1 : (k : Int) < (l : Int) := by omega
          have cCm := CCOST.out mA' ml' mc' m wr (bel_trans HBW.out hbw) sm
          rw [hce, hco] at cCm
          have cB1 : ∀ A l c W, SlIs intR W A l c (cf m) → SlIs intR W bA bl bc best → Calls Try.prog 20 #[.slice A l c, .slice bA bl bc] W fun e w' => e = .returned (.bool false) ∧ Below W.heap.size W w' := fun A l c W h1 h2 => by
            rw [← hnb]; exact better_any _ _ _ _ _ _ _ _ W h1 h2
          have hwz := hbw.size
          have hfl := List.length_filter_le (fun m => decide (cf m = best)) (all.take k)
          have htl : (all.take k).length ≤ k := List.length_take_le _ _
          have hk4 : k ≤ 4096 := by have := HLL.out; omega
          have hbq := HQ.out.ext hbw
          by_cases hq : cf m = best
          · have cI := fun A l c W h1 h2 => lawInts_any A l c bA bl bc (cf m) best W h1 h2
            rw [show decide (cf m = best) = true from decide_eq_true hq] at cI hft
            rw [if_pos rfl] at hft
            clear cm1
            have HBW_ := Lib.hid hbw
            clear hbw
            have HCE := Lib.hid hce; clear hce
            have HCO := Lib.hid hco; clear hco
            have HNB := Lib.hid hnb; clear hnb
            have HFT := Lib.hid hft; clear hft
            have HM := Lib.hid hm; clear hm
            have SM := Lib.hid sm; clear sm
            have SM1 := Lib.hid sm1; clear sm1
            have HMB := Lib.hid hmb; clear hmb
            have HW := Lib.hid hw; clear hw
            have HX1 := Lib.hid hx1; clear hx1
            have CCM := Lib.hid cCm; clear cCm
            have CB1 := Lib.hid cB1; clear cB1
            have HQ := Lib.hid hq; clear hq
            have CI := Lib.hid cI; clear cI
            have HBQ := Lib.hid hbq; clear hbq
            go_wp2_with fail
            go_fit CCM.out; rintro e w9 ⟨cA, cl, cc, rfl, hc, hb9⟩
            have HBX := Lib.hid hb9
            clear hb9
            have hq9 := HBQ.out.ext HBX.out
            clear p0 p1 p2 p3 p4 p5
            clear cm
            have HC := Lib.hid hc; clear hc
            have HQ9 := Lib.hid hq9; clear hq9
            go_wp2_with fail
            go_fit (CB1.out cA cl cc _ HC.out HQ9.out); rintro e wa ⟨rfl, hba⟩
            have hc2 := HC.out.ext hba
            have hq2 := HQ9.out.ext hba
            have HBY := Lib.hid (bel_trans HBX.out hba)
            clear hba
            have HC2 := Lib.hid hc2; clear hc2
            have HQ2 := Lib.hid hq2; clear hq2
            go_wp2_with fail
            go_fit (CI.out cA cl cc _ HC2.out HQ2.out); rintro e wb ⟨rfl, hbb⟩
            have hbz := bel_trans HBY.out hbb
            clear hbb
            have hbw5 := bel_trans HBW_.out hbz
            have ho5 := HW.out.bel hbz
            have hm5 := SM.out.ext hbz
            obtain ⟨v', w6, hrun, hown, hg6, hgb, hat⟩ := appOwnS ho5 hm5 HMB.out (by omega) hbw5.size 33
            have hb6 := bel_grown hbw5 hg6 hbw5.size hgb
            rw [← HFT.out] at hown
            clear hg6 hgb hat
            have HBZ := Lib.hid hbz; clear hbz
            have HBW5 := Lib.hid hbw5; clear hbw5
            have HO5 := Lib.hid ho5; clear ho5
            have HM5 := Lib.hid hm5; clear hm5
            have HRUN := Lib.hid hrun; clear hrun
            have HOWN := Lib.hid hown; clear hown
            have HB6 := Lib.hid hb6; clear hb6
            go_wp2_with (at_builtin; refine wpList_append_run rfl _ _ _ rfl _ _ rfl rfl _ _ HRUN.out ?_)
            go_roundw
            case rel => exact ⟨k + 1, by omega, by go_num, HOWN.out, HB6.out⟩
            case measure => simp [intOf]; omega
          · have cI := fun A l c W h1 h2 => lawInts_any A l c bA bl bc (cf m) best W h1 h2
            rw [show decide (cf m = best) = false from decide_eq_false hq] at cI hft
            rw [if_neg (by simp)] at hft
            clear cm1
            have HBW_ := Lib.hid hbw
            clear hbw
            have HCE := Lib.hid hce; clear hce
            have HCO := Lib.hid hco; clear hco
            have HNB := Lib.hid hnb; clear hnb
            have HFT := Lib.hid hft; clear hft
            have HM := Lib.hid hm; clear hm
            have SM := Lib.hid sm; clear sm
            have SM1 := Lib.hid sm1; clear sm1
            have HMB := Lib.hid hmb; clear hmb
            have HW := Lib.hid hw; clear hw
            have HX1 := Lib.hid hx1; clear hx1
            have CCM := Lib.hid cCm; clear cCm
            have CB1 := Lib.hid cB1; clear cB1
            have HQ := Lib.hid hq; clear hq
            have CI := Lib.hid cI; clear cI
            have HBQ := Lib.hid hbq; clear hbq
            go_wp2_with fail
            go_fit CCM.out; rintro e w9 ⟨cA, cl, cc, rfl, hc, hb9⟩
            have HBX := Lib.hid hb9
            clear hb9
            have hq9 := HBQ.out.ext HBX.out
            clear p0 p1 p2 p3 p4 p5
            clear cm
            have HC := Lib.hid hc; clear hc
            have HQ9 := Lib.hid hq9; clear hq9
            go_wp2_with fail
            go_fit (CB1.out cA cl cc _ HC.out HQ9.out); rintro e wa ⟨rfl, hba⟩
            have hc2 := HC.out.ext hba
            have hq2 := HQ9.out.ext hba
            have HBY := Lib.hid (bel_trans HBX.out hba)
            clear hba
            have HC2 := Lib.hid hc2; clear hc2
            have HQ2 := Lib.hid hq2; clear hq2
            go_wp2_with fail
            go_fit (CI.out cA cl cc _ HC2.out HQ2.out); rintro e wb ⟨rfl, hbb⟩
            have hbz := bel_trans HBY.out hbb
            clear hbb
            have hbw5 := bel_trans HBW_.out hbz
            have ho5 := HW.out.bel hbz
            rw [← HFT.out] at ho5
            have HBZ := Lib.hid hbz; clear hbz
            have HBW5 := Lib.hid hbw5; clear hbw5
            have HO5 := Lib.hid ho5; clear ho5
            go_wp2_with fail
            go_roundw
            case rel => exact ⟨k + 1, by omega, by go_num, HO5.out, HBW5.out⟩
            case measure => simp [intOf]; omega
        · obtain rfl : l = k := by omega
          rw [List.take_of_length_le (by rw [HLL.out]; exact Nat.le_refl _)] at hw
          have hfl := List.length_filter_le (fun m => decide (cf m = best)) all
          rw [← L.out.out] at hw hfl
          obtain ⟨zA', zc', rfl, hos⟩ := hw.sl (by omega)
          have ho9 := HO.out.ext hbw
          have HBX := Lib.hid hbw
          clear hbw
          have HW := Lib.hid hw; clear hw
          have HOS := Lib.hid hos; clear hos
          have HO9 := Lib.hid ho9; clear ho9
          go_wp2_with fail
          go_fit (lists_any _ _ _ _ _ _ out out _ HO9.out HOS.out); rintro e wx ⟨rfl, hb⟩
          rw [show decide (out = out) = true from by simp]
          have HBY := Lib.hid (bel_trans HBW.out (bel_trans HBX.out hb))
          clear hb
          go_wp2_with fail
          go_fit (CA.out _); rintro e wy ⟨rfl, hb⟩
          have HBZ := Lib.hid (bel_trans HBY.out hb)
          clear hb
          go_wp2_with fail
          go_ret
          exact ⟨rfl, HBZ.out⟩
  | false =>
    clear ba bt
    go_enter Try.func6, Try.ntmps6
    go_wp2_with fail
    go_fit (CS.out _ (bel_alloc _ _)); rintro e w1 ⟨rfl, hb⟩
    have HX1 := Lib.hid ((Blk.new w 27 #[.int .i64 p.n, .slice nA nl nc, .slice sA sl sc, .slice rA rl rc, .slice mA ml mc]).bel hb)
    have HBW := Lib.hid (bel_trans (bel_alloc _ _) hb)
    clear hb
    obtain ⟨p0, p1, p2, p3, p4, p5⟩ := pcells HX1.out
    go_wp2_with fail
    go_fit (CXX.out _ HBW.out); rintro e w2 ⟨rfl, hb⟩
    replace HBW := Lib.hid (bel_trans HBW.out hb)
    replace HX1 := Lib.hid (HX1.out.bel hb)
    clear hb
    go_wp2_with fail
    go_fit (CXY.out _ HBW.out); rintro e w3 ⟨rfl, hb⟩
    replace HBW := Lib.hid (bel_trans HBW.out hb)
    replace HX1 := Lib.hid (HX1.out.bel hb)
    clear hb
    go_wp2_with fail
    go_fit (CXY.out _ HBW.out); rintro e w4 ⟨rfl, hb⟩
    replace HBW := Lib.hid (bel_trans HBW.out hb)
    replace HX1 := Lib.hid (HX1.out.bel hb)
    clear hb
    clear p0 p1 p2 p3 p4 p5
    obtain ⟨p0, p1, p2, p3, p4, p5⟩ := pcells HX1.out
    go_wp2_with fail
    go_fit (CALL.out _ HBW.out); rintro e v1 ⟨A, l, c, rfl, hl, hb⟩
    replace HBW := Lib.hid (bel_trans HBW.out hb)
    replace HX1 := Lib.hid (HX1.out.bel hb)
    clear hb
    clear p0 p1 p2 p3 p4 p5
    obtain ⟨p0, p1, p2, p3, p4, p5⟩ := pcells HX1.out
    have HL := Lib.hid hl; clear hl
    go_wp2_with fail
    go_fit (CBEST.out _ HBW.out); rintro e v2 ⟨oA, ol, oc, bA, bl, bc, rfl, ho, hq, hb⟩
    replace HBW := Lib.hid (bel_trans HBW.out hb)
    replace HX1 := Lib.hid (HX1.out.bel hb)
    replace HL := Lib.hid (HL.out.ext hb)
    clear hb
    clear p0 p1 p2 p3 p4 p5
    obtain ⟨p0, p1, p2, p3, p4, p5⟩ := pcells HX1.out
    have hll := HL.out.len
    have hol := ho.len
    have hlc := HL.out.cap
    have hlm := HL.out.max
    have hls := HL.out.small
    have hoc := ho.cap
    have hom := ho.max
    have heq : (!(((ol : Int) == 0) == ((l : Int) == 0))) = false := by
      have h1 := L.out.nil
      by_cases h0 : all = []
      · have h2 := h1.2 h0
        subst h0 h2
        rw [hll, hol]; rfl
      · have h2 : out ≠ [] := fun h => h0 (h1.1 h)
        have h3 : 0 < all.length := List.length_pos_iff.2 h0
        have h4 : 0 < out.length := List.length_pos_iff.2 h2
        rw [show ((ol : Int) == 0) = false from by simp; omega, show ((l : Int) == 0) = false from by simp; omega]; rfl
    have HO := Lib.hid ho; clear ho
    have HQ := Lib.hid hq; clear hq
    have HLL := Lib.hid hll; clear hll
    have HOL := Lib.hid hol; clear hol
    go_wp2_with fail
    go_loopw [14, 99] (fun v t wr => ∃ (k : Nat), k ≤ l ∧ t = .int .i64 (k : Int) ∧ OwnS wr v2.heap.size v ((all.take k).filter fun m => decide (cf m = best)) ∧ Below v2.heap.size v2 wr) (fun _ t _ => l - (intOf t).toNat)
    case atStart => exact ⟨0, Nat.zero_le _, rfl, by simpa using OwnS.nil _ _, Below.refl _ _⟩
    case round =>
      obtain ⟨k, hk, rfl, hw, hbw⟩ := hrel
      by_cases hlt : k < l
      · obtain ⟨m, hm, -⟩ := HL.out.drop hlt
        obtain ⟨hce, hco, hnb⟩ := L.out.mem m (List.mem_of_getElem? hm)
        have hft := filter_take (f := fun m => decide (cf m = best)) hm
        obtain ⟨ab, ao, mA', ml', mc', rfl, hab, cm1, sm1⟩ := HL.out.set hm
        have cm := (hbw.cell (p := ⟨ab, ao + k, none⟩) hab).trans cm1
        have hmb : 0 < ml' → ∀ ad, mA' = some ad → ad.block < v2.heap.size := fun h0 ad e => sm1.blk_lt h0 e
        have sm := sm1.ext hbw
        clear p0 p1 p2 p3 p4 p5
        have hx1 := HX1.out.bel hbw
        obtain ⟨p0, p1, p2, p3, p4, p5⟩ := pcells hx1
        have k0 : (0 : Int) ≤ (k : Int) := by omega
        have k1 : (k : Int) < (l : Int) := by omega
        have cCm := CCOST.out mA' ml' mc' m wr (bel_trans HBW.out hbw) sm
        rw [hce, hco] at cCm
        have cB1 : ∀ A l c W, SlIs intR W A l c (cf m) → SlIs intR W bA bl bc best → Calls Try.prog 20 #[.slice A l c, .slice bA bl bc] W fun e w' => e = .returned (.bool false) ∧ Below W.heap.size W w' := fun A l c W h1 h2 => by
          rw [← hnb]; exact better_any _ _ _ _ _ _ _ _ W h1 h2
        have hwz := hbw.size
        have hfl := List.length_filter_le (fun m => decide (cf m = best)) (all.take k)
        have htl : (all.take k).length ≤ k := List.length_take_le _ _
        have hk4 : k ≤ 4096 := by have := HLL.out; omega
        have hbq := HQ.out.ext hbw
        by_cases hq : cf m = best
        · have cI := fun A l c W h1 h2 => lawInts_any A l c bA bl bc (cf m) best W h1 h2
          rw [show decide (cf m = best) = true from decide_eq_true hq] at cI hft
          rw [if_pos rfl] at hft
          clear cm1
          have HBW_ := Lib.hid hbw
          clear hbw
          have HCE := Lib.hid hce; clear hce
          have HCO := Lib.hid hco; clear hco
          have HNB := Lib.hid hnb; clear hnb
          have HFT := Lib.hid hft; clear hft
          have HM := Lib.hid hm; clear hm
          have SM := Lib.hid sm; clear sm
          have SM1 := Lib.hid sm1; clear sm1
          have HMB := Lib.hid hmb; clear hmb
          have HW := Lib.hid hw; clear hw
          have HX1 := Lib.hid hx1; clear hx1
          have CCM := Lib.hid cCm; clear cCm
          have CB1 := Lib.hid cB1; clear cB1
          have HQ := Lib.hid hq; clear hq
          have CI := Lib.hid cI; clear cI
          have HBQ := Lib.hid hbq; clear hbq
          go_wp2_with fail
          go_fit CCM.out; rintro e w9 ⟨cA, cl, cc, rfl, hc, hb9⟩
          have HBX := Lib.hid hb9
          clear hb9
          have hq9 := HBQ.out.ext HBX.out
          clear p0 p1 p2 p3 p4 p5
          clear cm
          have HC := Lib.hid hc; clear hc
          have HQ9 := Lib.hid hq9; clear hq9
          go_wp2_with fail
          go_fit (CB1.out cA cl cc _ HC.out HQ9.out); rintro e wa ⟨rfl, hba⟩
          have hc2 := HC.out.ext hba
          have hq2 := HQ9.out.ext hba
          have HBY := Lib.hid (bel_trans HBX.out hba)
          clear hba
          have HC2 := Lib.hid hc2; clear hc2
          have HQ2 := Lib.hid hq2; clear hq2
          go_wp2_with fail
          go_fit (CI.out cA cl cc _ HC2.out HQ2.out); rintro e wb ⟨rfl, hbb⟩
          have hbz := bel_trans HBY.out hbb
          clear hbb
          have hbw5 := bel_trans HBW_.out hbz
          have ho5 := HW.out.bel hbz
          have hm5 := SM.out.ext hbz
          obtain ⟨v', w6, hrun, hown, hg6, hgb, hat⟩ := appOwnS ho5 hm5 HMB.out (by omega) hbw5.size 33
          have hb6 := bel_grown hbw5 hg6 hbw5.size hgb
          rw [← HFT.out] at hown
          clear hg6 hgb hat
          have HBZ := Lib.hid hbz; clear hbz
          have HBW5 := Lib.hid hbw5; clear hbw5
          have HO5 := Lib.hid ho5; clear ho5
          have HM5 := Lib.hid hm5; clear hm5
          have HRUN := Lib.hid hrun; clear hrun
          have HOWN := Lib.hid hown; clear hown
          have HB6 := Lib.hid hb6; clear hb6
          go_wp2_with (at_builtin; refine wpList_append_run rfl _ _ _ rfl _ _ rfl rfl _ _ HRUN.out ?_)
          go_roundw
          case rel => exact ⟨k + 1, by omega, by go_num, HOWN.out, HB6.out⟩
          case measure => simp [intOf]; omega
        · have cI := fun A l c W h1 h2 => lawInts_any A l c bA bl bc (cf m) best W h1 h2
          rw [show decide (cf m = best) = false from decide_eq_false hq] at cI hft
          rw [if_neg (by simp)] at hft
          clear cm1
          have HBW_ := Lib.hid hbw
          clear hbw
          have HCE := Lib.hid hce; clear hce
          have HCO := Lib.hid hco; clear hco
          have HNB := Lib.hid hnb; clear hnb
          have HFT := Lib.hid hft; clear hft
          have HM := Lib.hid hm; clear hm
          have SM := Lib.hid sm; clear sm
          have SM1 := Lib.hid sm1; clear sm1
          have HMB := Lib.hid hmb; clear hmb
          have HW := Lib.hid hw; clear hw
          have HX1 := Lib.hid hx1; clear hx1
          have CCM := Lib.hid cCm; clear cCm
          have CB1 := Lib.hid cB1; clear cB1
          have HQ := Lib.hid hq; clear hq
          have CI := Lib.hid cI; clear cI
          have HBQ := Lib.hid hbq; clear hbq
          go_wp2_with fail
          go_fit CCM.out; rintro e w9 ⟨cA, cl, cc, rfl, hc, hb9⟩
          have HBX := Lib.hid hb9
          clear hb9
          have hq9 := HBQ.out.ext HBX.out
          clear p0 p1 p2 p3 p4 p5
          clear cm
          have HC := Lib.hid hc; clear hc
          have HQ9 := Lib.hid hq9; clear hq9
          go_wp2_with fail
          go_fit (CB1.out cA cl cc _ HC.out HQ9.out); rintro e wa ⟨rfl, hba⟩
          have hc2 := HC.out.ext hba
          have hq2 := HQ9.out.ext hba
          have HBY := Lib.hid (bel_trans HBX.out hba)
          clear hba
          have HC2 := Lib.hid hc2; clear hc2
          have HQ2 := Lib.hid hq2; clear hq2
          go_wp2_with fail
          go_fit (CI.out cA cl cc _ HC2.out HQ2.out); rintro e wb ⟨rfl, hbb⟩
          have hbz := bel_trans HBY.out hbb
          clear hbb
          have hbw5 := bel_trans HBW_.out hbz
          have ho5 := HW.out.bel hbz
          rw [← HFT.out] at ho5
          have HBZ := Lib.hid hbz; clear hbz
          have HBW5 := Lib.hid hbw5; clear hbw5
          have HO5 := Lib.hid ho5; clear ho5
          go_wp2_with fail
          go_roundw
          case rel => exact ⟨k + 1, by omega, by go_num, HO5.out, HBW5.out⟩
          case measure => simp [intOf]; omega
      · obtain rfl : l = k := by omega
        rw [List.take_of_length_le (by rw [HLL.out]; exact Nat.le_refl _)] at hw
        have hfl := List.length_filter_le (fun m => decide (cf m = best)) all
        rw [← L.out.out] at hw hfl
        obtain ⟨zA', zc', rfl, hos⟩ := hw.sl (by omega)
        have ho9 := HO.out.ext hbw
        have HBX := Lib.hid hbw
        clear hbw
        have HW := Lib.hid hw; clear hw
        have HOS := Lib.hid hos; clear hos
        have HO9 := Lib.hid ho9; clear ho9
        go_wp2_with fail
        go_fit (lists_any _ _ _ _ _ _ out out _ HO9.out HOS.out); rintro e wx ⟨rfl, hb⟩
        rw [show decide (out = out) = true from by simp]
        have HBY := Lib.hid (bel_trans HBW.out (bel_trans HBX.out hb))
        clear hb
        go_wp2_with fail
        go_fit (CA.out _); rintro e wy ⟨rfl, hb⟩
        have HBZ := Lib.hid (bel_trans HBY.out hb)
        clear hb
        go_wp2_with fail
        go_ret
        exact ⟨rfl, HBZ.out⟩
end Go.Proofs.Ytfopcpmckplemaa

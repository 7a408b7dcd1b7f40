/- Contract: stable.Best, of a valid program of few atoms. -/
import Derived.Test.YtdmcclfagjgcgaaGreatSw4
import Derived.Test.YtdmcclfagjgcgaaGreatSw8
import Derived.Test.YtdmcclfagjgcgaaGreatSw9
namespace Go.Proofs.YtdmcclfagjgcgaaGreat
open Go.RowKit

/-- The row of the best so far. -/
def OwnS (w : World) (base : Nat) (v : Value) (xs : List (List Int)) : Prop := ∃ cs, SetRow w base v cs v.ownBlock.toList xs
theorem OwnS.nil (w : World) (base : Nat) : OwnS w base (.slice none 0 0) [] := ⟨[], SetRow.nil _ _ _⟩
theorem OwnS.bel {A B : World} {base : Nat} {v : Value} {xs : List (List Int)} (h : OwnS A base v xs) (hb : Below A.heap.size A B) : OwnS B base v xs := by
  obtain ⟨cs, h⟩ := h; exact ⟨cs, h.bel hb⟩
theorem OwnS.sl {w : World} {base : Nat} {v : Value} {xs : List (List Int)} (h : OwnS w base v xs) (hs : xs.length ≤ 17592186044416) : ∃ A c, v = .slice A xs.length c ∧ SlIs (slR intR) w A xs.length c xs := by
  obtain ⟨cs, h⟩ := h; exact h.sl hs
/-- append(v, s): s lies below the base. -/
theorem appOwnS {w : World} {base : Nat} {v : Value} {xs : List (List Int)} (h : OwnS w base v xs) {A : Option Addr} {l c : Nat} {x : List Int} (hx : SlIs intR w A l c x) (ho : 0 < l → ∀ ad, A = some ad → ad.block < base) (hs : xs.length < 1099511627776) (hb : base ≤ w.heap.size) (ty : TypeId) :
    ∃ v' w', (Builtin.append_ #[51, 51] ty #[v, .slice (some ⟨w.heap.size, 0, none⟩) 1 1]).run Tryz.prog (w.alloc (.cells #[.slice A l c] 23)) = .ok v' w' ∧ OwnS w' base v' (xs ++ [x]) ∧ w.grownBy w' v.ownBlock ∧
      (∀ k, v.ownBlock = some k → base ≤ k) ∧ (∀ k, v'.ownBlock = some k → v.ownBlock = some k ∨ w.heap.size ≤ k) := by
  obtain ⟨cs, h⟩ := h
  obtain ⟨v', w', hrun, hown, hg, hat⟩ := appL h.1 A l c hs hb ty
  refine ⟨v', w', hrun, ⟨_, h.snoc hx (fun h0 ad e hm => ?_) hown ((Kept.refl _ w).grown hg (fun q hq => .inl (by simp [hq]))) (fun k hk => ?_)⟩, hg, fun k hk => (h.1.lt k hk).1, hat⟩
  · have h1 : v.ownBlock = some ad.block := by simpa using hm
    have := (h.1.lt _ h1).1
    have := ho h0 ad e
    omega
  · have h1 : v'.ownBlock = some k := by simpa using hk
    rcases hat k h1 with h2 | h2
    · exact .inl (by simp [h2])
    · exact .inr h2
theorem Off.app {w : World} {v v' : Value} (hat : ∀ k, v'.ownBlock = some k → v.ownBlock = some k ∨ w.heap.size ≤ k) {A : Option Addr} {l c : Nat} {x : List Int} (hs : SlIs intR w A l c x) (ho : Off v.ownBlock.toList A l) : Off v'.ownBlock.toList A l := fun h0 ad e hm => by
  have h1 : v'.ownBlock = some ad.block := by simpa using hm
  rcases hat _ h1 with h2 | h2
  · exact ho h0 ad e (by simp [h2])
  · have := hs.blk_lt h0 e; omega
theorem kept_own {w w' : World} {v : Value} (hg : w.grownBy w' v.ownBlock) : Kept v.ownBlock.toList w w' := (Kept.refl _ w).grown hg (fun q hq => .inl (by simp [hq]))
theorem best_take {c : List Int → List Int} {all : List (List Int)} {k : Nat} {m : List Int} (h : all[k]? = some m) (s : List (List Int) × List Int) : (all.take (k + 1)).foldl (bestStep c) s = bestStep c ((all.take k).foldl (bestStep c) s) m := by
  rw [take_snoc' h, List.foldl_append]; rfl
theorem lexS_le : ∀ xs : List Int, (lexS xs).length ≤ 2 ^ xs.length
  | [] => by simp [lexS]
  | a :: t => by
    have ih := lexS_le t
    have h1 : (lexS t).tail.length ≤ (lexS t).length - 1 := by simp
    have h2 : 0 < 2 ^ t.length := Nat.two_pow_pos _
    have e : (lexS (a :: t)).length = 1 + (lexS t).length + (lexS t).tail.length := by simp [lexS]; omega
    have h3 : 0 < (lexS t).length := by cases t <;> simp [lexS]
    rw [e, List.length_cons, Nat.pow_succ]; omega
theorem SmallP.all_le {p : GProg} (h : SmallP p) : (allL p).length ≤ 4096 := by
  have h1 := List.length_filter_le (isL p) (lexS (atomsL p.n.toNat))
  have h2 := lexS_le (atomsL p.n.toNat)
  have h3 : (atomsL p.n.toNat).length = p.n.toNat := by simp [atomsL]
  have h4 : (2 : Nat) ^ p.n.toNat ≤ 2 ^ 12 := Nat.pow_le_pow_right (by omega) (by have := h.n12; omega)
  rw [h3] at h2
  unfold allL; omega
theorem best_len {c : List Int → List Int} : ∀ (l : List (List Int)) (s : List (List Int) × List Int), (l.foldl (bestStep c) s).1.length ≤ s.1.length + l.length
  | [], s => by simp
  | m :: t, s => by
    have ih := best_len (c := c) t (bestStep c s m)
    have : (bestStep c s m).1.length ≤ s.1.length + 1 := by
      unfold bestStep
      split <;> (simp only []; split <;> simp)
    rw [List.foldl_cons, List.length_cons]; omega

set_option maxRecDepth 100000 in
set_option maxHeartbeats 4000000 in
theorem stableBest_any (p : GProg) (nA : Option Addr) (nl nc : Nat) (sA : Option Addr) (sl sc : Nat) (rA : Option Addr) (rl rc : Nat) (mA : Option Addr) (ml mc : Nat) (w : World) (hp : ProgIn w p nA nl nc sA sl sc rA rl rc mA ml mc) (hv : validE p = 0) (hs : SmallP p) :
    Calls Tryz.prog 29 #[.agg #[.int .i64 p.n, .slice nA nl nc, .slice sA sl sc, .slice rA rl rc, .slice mA ml mc]] w fun e w' => ∃ A l c B k q, e = .returned (.tuple #[.slice A l c, .slice B k q, .int .i64 0]) ∧ SlIs (slR intR) w' A l c (bestL (costL p) (allL p)).1 ∧ SlIs intR w' B k q (bestL (costL p) (allL p)).2 ∧ Below w.heap.size w w' := by
  have cA := fun W (hb : Below w.heap.size w W) => all_any p nA nl nc sA sl sc rA rl rc mA ml mc W (hp.ext hb) hv hs
  have cC := fun A l c x W (hb : Below w.heap.size w W) (hx : SlIs intR W A l c x) => costs_any p nA nl nc sA sl sc rA rl rc mA ml mc A l c x W (hp.ext hb) hx (valid_lev hv)
  have hal := hs.all_le
  generalize hall : allL p = all at *
  generalize costL p = cf at *
  cases all with
  | nil =>
    have HP := Lib.hid hp; clear hp
    have CA := Lib.hid cA; clear cA
    have CC := Lib.hid cC; clear cC
    have HALL := Lib.hid hall; clear hall
    have HV := Lib.hid hv; clear hv
    have HS := Lib.hid hs; clear hs
    go_enter Tryz.func29, Tryz.ntmps29
    go_wp2_with fail
    go_fit (CA.out _ (bel_alloc _ _)); rintro e w1 ⟨A, l, c, rfl, hsl, hb1⟩
    have h0 : l = 0 := hsl.len
    subst h0
    have HB1 := Lib.hid (bel_trans (bel_alloc _ _) hb1)
    clear hb1
    have HSL := Lib.hid hsl; clear hsl
    go_wp2_with fail
    go_ret3
    exact ⟨_, _, _, _, _, _, rfl, SlIs.nil _ _, SlIs.nil _ _, HB1.out⟩
  | cons m0 rest =>
    have hfin : bestL cf (m0 :: rest) = (m0 :: rest).foldl (bestStep cf) ([], cf m0) := rfl
    have h00 : (m0 :: rest)[0]? = some m0 := rfl
    have hlp : (m0 :: rest).length ≠ 0 := by simp
    generalize m0 :: rest = all at *
    rw [hfin]
    have HP := Lib.hid hp; clear hp
    have CA := Lib.hid cA; clear cA
    have CC := Lib.hid cC; clear cC
    have HALL := Lib.hid hall; clear hall
    have HV := Lib.hid hv; clear hv
    have HS := Lib.hid hs; clear hs
    have HFIN := Lib.hid hfin; clear hfin
    have H00 := Lib.hid h00; clear h00
    go_enter Tryz.func29, Tryz.ntmps29
    go_wp2_with fail
    go_fit (CA.out _ (bel_alloc _ _)); rintro e w1 ⟨A, l, c, rfl, hsl, hb1⟩
    have hx1 := (Blk.new w 27 #[.int .i64 p.n, .slice nA nl nc, .slice sA sl sc, .slice rA rl rc, .slice mA ml mc]).bel hb1
    obtain ⟨p0, p1, p2, p3, p4, p5⟩ := pcells hx1
    have HB1 := Lib.hid (bel_trans (bel_alloc _ _) hb1)
    clear hb1
    have hl0 : 0 < l := by have := hsl.len; omega
    have HLB := Lib.hid (show l ≤ 4096 by have := hsl.len; omega)
    have hlc := hsl.cap
    have hlm := hsl.max
    have hls := hsl.small
    obtain ⟨ab, ao, mA0, ml0, mc0, rfl, hab, cm0, sm0⟩ := hsl.set H00.out
    have z0 : ((l : Int) == 0) = false := by simp; omega
    have z1 : (0 : Int) < (l : Int) := by omega
    have z2 : ao + 0 = ao := rfl
    rw [z2] at cm0
    have HX1 := Lib.hid hx1; clear hx1
    have HSL := Lib.hid hsl; clear hsl
    have SM0 := Lib.hid sm0; clear sm0
    have HAB := Lib.hid hab; clear hab
    go_wp2_with fail
    refine wp_region_tail 4 [(⟨w.heap.size, 0, none⟩, .int .i64 p.n), (⟨w.heap.size, 1, none⟩, .slice nA nl nc), (⟨w.heap.size, 2, none⟩, .slice sA sl sc), (⟨w.heap.size, 3, none⟩, .slice rA rl rc), (⟨w.heap.size, 4, none⟩, .slice mA ml mc), (⟨ab, ao, none⟩, .slice mA0 ml0 mc0)] (by kernel_rfl) (by kernel_rfl) (by simp [go_sem, *]) ?_
    intro X hk hX; simp only [List.forall_mem_cons] at hk; obtain ⟨kt0, kt1, kt2, kt3, kt4, kt5, kz⟩ := hk; clear kz
    simp only [List.take_succ_cons, List.take_zero, List.drop_succ_cons, List.drop_zero]
    repeat go_big_quiet_step (fail)
    refine wpQuiet_nil ?_
    have hbX : Below w1.heap.size w1 X := by rw [hX]; exact (Below.refl _ _).drew
    clear hX
    have HBX := Lib.hid hbX; clear hbX
    go_wp2_with fail
    go_fit (CC.out mA0 ml0 mc0 m0 _ (bel_trans HB1.out HBX.out) (SM0.out.ext HBX.out)); rintro e w2 ⟨cA0, cl0, cc0, rfl, hc0, hb2⟩
    have HB2 := Lib.hid (bel_trans (bel_trans HB1.out HBX.out) hb2)
    have HB12 := Lib.hid (bel_trans HBX.out hb2)
    have hx2 := HX1.out.bel (bel_trans HBX.out hb2)
    clear hb2 kt0 kt1 kt2 kt3 kt4 kt5 p0 p1 p2 p3 p4 cm0
    have HC0 := Lib.hid hc0; clear hc0
    have HX2 := Lib.hid hx2; clear hx2
    go_wp2_with fail
    go_loopw [7, 8, 32] (fun v b t wr => ∃ (k : Nat) (bA : Option Addr) (bl bc : Nat) (st : List (List Int) × List Int), k ≤ l ∧ t = .int .i64 (k : Int) ∧ b = .slice bA bl bc ∧ OwnS wr w2.heap.size v st.1 ∧ SlIs intR wr bA bl bc st.2 ∧ Off v.ownBlock.toList bA bl ∧ st.1.length ≤ k ∧ Below w2.heap.size w2 wr ∧ st = (all.take k).foldl (bestStep cf) ([], cf m0)) (fun _ _ t _ => l - (intOf t).toNat)
    case atStart => exact ⟨0, cA0, cl0, cc0, ([], cf m0), Nat.zero_le _, rfl, rfl, OwnS.nil _ _, HC0.out, fun _ _ _ h => by simp [Value.ownBlock] at h, Nat.zero_le _, Below.refl _ _, by simp⟩
    case round =>
      obtain ⟨k, bA, bl, bc, st, hk, rfl, rfl, ho, hbs, hoff, hle, hbw, hst⟩ := hrel
      by_cases hlt : k < l
      · obtain ⟨m, hm, -⟩ := HSL.out.drop hlt
        have hstep := best_take (c := cf) hm ([], cf m0)
        rw [← hst] at hstep
        obtain ⟨ab', ao', mA, ml', mc', e, _, cm1, sm1⟩ := HSL.out.set hm
        cases e
        have hb1r := bel_trans HB12.out hbw
        have cm := (hb1r.cell (p := ⟨ab, ao + k, none⟩) HAB.out).trans cm1
        have sm := sm1.ext hb1r
        have hmb : 0 < ml' → ∀ ad, mA = some ad → ad.block < w2.heap.size := fun h0 ad e => by
          have := sm1.blk_lt h0 e; have := HB12.out.size; omega
        have t1 := HX2.out.bel hbw
        obtain ⟨p0, p1, p2, p3, p4, p5⟩ := pcells t1
        have k0 : (0 : Int) ≤ (k : Int) := by omega
        have k1 : (k : Int) < (l : Int) := by omega
        have cCm := CC.out mA ml' mc' m wr (bel_trans HB2.out hbw) sm
        have hwz := hbw.size
        cases hq1 : betB (cf m) st.2 with
        | true =>
          have hst' : bestStep cf st m = ([m], cf m) := by unfold bestStep; simp [hq1, betB_irrefl]
          rw [hst'] at hstep
          have cB1 : ∀ A l c W, SlIs intR W A l c (cf m) → SlIs intR W bA bl bc st.2 → Calls Tryz.prog 79 #[.slice A l c, .slice bA bl bc] W fun e w' => e = .returned (.bool true) ∧ Below W.heap.size W w' := fun A l c W h1 h2 => by
            rw [← hq1]; exact better_any _ _ _ _ _ _ _ _ W h1 h2
          have cB2 : ∀ A l c W, SlIs intR W A l c (cf m) → Calls Tryz.prog 79 #[.slice A l c, .slice A l c] W fun e w' => e = .returned (.bool false) ∧ Below W.heap.size W w' := fun A l c W h1 => by
            rw [← betB_irrefl (cf m)]; exact better_any _ _ _ _ _ _ _ _ W h1 h1
          clear cm1
          have HSTEP := Lib.hid hstep; clear hstep
          have HST := Lib.hid hst; clear hst
          have HST' := Lib.hid hst'; clear hst'
          have HQ1 := Lib.hid hq1; clear hq1
          have CB1 := Lib.hid cB1; clear cB1
          have CB2 := Lib.hid cB2; clear cB2
          have CCM := Lib.hid cCm; clear cCm
          have SM := Lib.hid sm; clear sm
          have SM1 := Lib.hid sm1; clear sm1
          have HMB := Lib.hid hmb; clear hmb
          have HB1R := Lib.hid hb1r; clear hb1r
          have HBS := Lib.hid hbs; clear hbs
          have HO := Lib.hid ho; clear ho
          have HOFF := Lib.hid hoff; clear hoff
          have HM := Lib.hid hm; clear hm
          have T1 := Lib.hid t1; clear t1
          have HBW := Lib.hid hbw; clear hbw
          go_wp2_with fail
          go_fit CCM.out; rintro e w3 ⟨cA, cl, cc, rfl, hc, hb3⟩
          have HB3 := Lib.hid hb3
          clear hb3 p0 p1 p2 p3 p4 cm
          have HC := Lib.hid hc; clear hc
          go_wp2_with fail
          go_fit (CB1.out cA cl cc _ HC.out (HBS.out.ext HB3.out)); rintro e w4 ⟨rfl, hb4⟩
          have HB4 := Lib.hid hb4
          clear hb4
          have hc4 := HC.out.ext HB4.out
          have HC4 := Lib.hid hc4; clear hc4
          go_wp2_with fail
          go_fit (CB2.out cA cl cc _ HC4.out); rintro e w5 ⟨rfl, hb5⟩
          have hbw5 := bel_trans HBW.out (bel_trans HB3.out (bel_trans HB4.out hb5))
          have hc5 := HC4.out.ext hb5
          have hs5 := SM.out.ext (bel_trans HB3.out (bel_trans HB4.out hb5))
          obtain ⟨v', w6, hrun, hown, hg6, hgb, hat⟩ := appOwnS (OwnS.nil w5 w2.heap.size) hs5 HMB.out (by simp) hbw5.size 51
          have hb6 := bel_grown hbw5 hg6 hbw5.size hgb
          have hc6 := hc5.keptM (kept_own hg6) (fun _ _ _ h => by simp [Value.ownBlock] at h)
          have hof6 : Off v'.ownBlock.toList cA cl := Off.app hat hc5 (fun _ _ _ h => by simp [Value.ownBlock] at h)
          clear hb5 hg6 hgb hat
          have HBW5 := Lib.hid hbw5; clear hbw5
          have HC5 := Lib.hid hc5; clear hc5
          have HS5 := Lib.hid hs5; clear hs5
          have HRUN := Lib.hid hrun; clear hrun
          have HOWN := Lib.hid hown; clear hown
          have HB6 := Lib.hid hb6; clear hb6
          have HC6 := Lib.hid hc6; clear hc6
          have HOF6 := Lib.hid hof6; clear hof6
          go_wp2_with (at_builtin; refine wpList_append_run rfl _ _ _ rfl _ _ rfl rfl _ _ HRUN.out ?_)
          go_roundw
          case rel => exact ⟨k + 1, _, _, _, ([m], cf m), by omega, by go_num, rfl, HOWN.out, HC6.out, HOF6.out, by simp, HB6.out, HSTEP.out.symm⟩
          case measure => simp [intOf]; omega
        | false =>
          have cB1 : ∀ A l c W, SlIs intR W A l c (cf m) → SlIs intR W bA bl bc st.2 → Calls Tryz.prog 79 #[.slice A l c, .slice bA bl bc] W fun e w' => e = .returned (.bool false) ∧ Below W.heap.size W w' := fun A l c W h1 h2 => by
            rw [← hq1]; exact better_any _ _ _ _ _ _ _ _ W h1 h2
          cases hq2 : betB st.2 (cf m) with
          | true =>
            have hst' : bestStep cf st m = st := by unfold bestStep; simp [hq1, hq2]
            rw [hst'] at hstep
            have cB2 : ∀ A l c W, SlIs intR W A l c (cf m) → SlIs intR W bA bl bc st.2 → Calls Tryz.prog 79 #[.slice bA bl bc, .slice A l c] W fun e w' => e = .returned (.bool true) ∧ Below W.heap.size W w' := fun A l c W h1 h2 => by
              rw [← hq2]; exact better_any _ _ _ _ _ _ _ _ W h2 h1
            clear cm1
            have HSTEP := Lib.hid hstep; clear hstep
            have HST := Lib.hid hst; clear hst
            have HST' := Lib.hid hst'; clear hst'
            have HQ1 := Lib.hid hq1; clear hq1
            have HQ2 := Lib.hid hq2; clear hq2
            have CB1 := Lib.hid cB1; clear cB1
            have CB2 := Lib.hid cB2; clear cB2
            have CCM := Lib.hid cCm; clear cCm
            have SM := Lib.hid sm; clear sm
            have SM1 := Lib.hid sm1; clear sm1
            have HMB := Lib.hid hmb; clear hmb
            have HB1R := Lib.hid hb1r; clear hb1r
            have HBS := Lib.hid hbs; clear hbs
            have HO := Lib.hid ho; clear ho
            have HOFF := Lib.hid hoff; clear hoff
            have HM := Lib.hid hm; clear hm
            have T1 := Lib.hid t1; clear t1
            have HBW := Lib.hid hbw; clear hbw
            go_wp2_with fail
            go_fit CCM.out; rintro e w3 ⟨cA, cl, cc, rfl, hc, hb3⟩
            have HB3 := Lib.hid hb3
            clear hb3 p0 p1 p2 p3 p4 cm
            have hs3 := HBS.out.ext HB3.out
            have HC := Lib.hid hc; clear hc
            have HS3 := Lib.hid hs3; clear hs3
            go_wp2_with fail
            go_fit (CB1.out cA cl cc _ HC.out HS3.out); rintro e w4 ⟨rfl, hb4⟩
            have HB4 := Lib.hid hb4
            clear hb4
            have hc4 := HC.out.ext HB4.out
            have hs4 := HS3.out.ext HB4.out
            have HC4 := Lib.hid hc4; clear hc4
            have HS4 := Lib.hid hs4; clear hs4
            go_wp2_with fail
            go_fit (CB2.out cA cl cc _ HC4.out HS4.out); rintro e w5 ⟨rfl, hb5⟩
            have hbz := bel_trans HB3.out (bel_trans HB4.out hb5)
            have hbw5 := bel_trans HBW.out hbz
            have hs5 := HBS.out.ext hbz
            have ho5 := HO.out.bel hbz
            clear hb5 hbz
            have HBW5 := Lib.hid hbw5; clear hbw5
            have HS5 := Lib.hid hs5; clear hs5
            have HO5 := Lib.hid ho5; clear ho5
            go_wp2_with fail
            go_roundw
            case rel => exact ⟨k + 1, _, _, _, st, by omega, by go_num, rfl, HO5.out, HS5.out, HOFF.out, by omega, HBW5.out, HSTEP.out.symm⟩
            case measure => simp [intOf]; omega
          | false =>
            have hst' : bestStep cf st m = (st.1 ++ [m], st.2) := by unfold bestStep; simp [hq1, hq2]
            rw [hst'] at hstep
            have cB2 : ∀ A l c W, SlIs intR W A l c (cf m) → SlIs intR W bA bl bc st.2 → Calls Tryz.prog 79 #[.slice bA bl bc, .slice A l c] W fun e w' => e = .returned (.bool false) ∧ Below W.heap.size W w' := fun A l c W h1 h2 => by
              rw [← hq2]; exact better_any _ _ _ _ _ _ _ _ W h2 h1
            clear cm1
            have HSTEP := Lib.hid hstep; clear hstep
            have HST := Lib.hid hst; clear hst
            have HST' := Lib.hid hst'; clear hst'
            have HQ1 := Lib.hid hq1; clear hq1
            have HQ2 := Lib.hid hq2; clear hq2
            have CB1 := Lib.hid cB1; clear cB1
            have CB2 := Lib.hid cB2; clear cB2
            have CCM := Lib.hid cCm; clear cCm
            have SM := Lib.hid sm; clear sm
            have SM1 := Lib.hid sm1; clear sm1
            have HMB := Lib.hid hmb; clear hmb
            have HB1R := Lib.hid hb1r; clear hb1r
            have HBS := Lib.hid hbs; clear hbs
            have HO := Lib.hid ho; clear ho
            have HOFF := Lib.hid hoff; clear hoff
            have HM := Lib.hid hm; clear hm
            have T1 := Lib.hid t1; clear t1
            have HBW := Lib.hid hbw; clear hbw
            go_wp2_with fail
            go_fit CCM.out; rintro e w3 ⟨cA, cl, cc, rfl, hc, hb3⟩
            have HB3 := Lib.hid hb3
            clear hb3 p0 p1 p2 p3 p4 cm
            have hs3 := HBS.out.ext HB3.out
            have HC := Lib.hid hc; clear hc
            have HS3 := Lib.hid hs3; clear hs3
            go_wp2_with fail
            go_fit (CB1.out cA cl cc _ HC.out HS3.out); rintro e w4 ⟨rfl, hb4⟩
            have HB4 := Lib.hid hb4
            clear hb4
            have hc4 := HC.out.ext HB4.out
            have hs4 := HS3.out.ext HB4.out
            have HC4 := Lib.hid hc4; clear hc4
            have HS4 := Lib.hid hs4; clear hs4
            go_wp2_with fail
            go_fit (CB2.out cA cl cc _ HC4.out HS4.out); rintro e w5 ⟨rfl, hb5⟩
            have hbz := bel_trans HB3.out (bel_trans HB4.out hb5)
            have hbw5 := bel_trans HBW.out hbz
            have hs5 := HBS.out.ext hbz
            have ho5 := HO.out.bel hbz
            have hm5 := SM.out.ext hbz
            have hll := HSL.out.small
            obtain ⟨v', w6, hrun, hown, hg6, hgb, hat⟩ := appOwnS ho5 hm5 HMB.out (by have := HLB.out; omega) hbw5.size 51
            have hb6 := bel_grown hbw5 hg6 hbw5.size hgb
            have hs6 := hs5.keptM (kept_own hg6) HOFF.out
            have hof6 := Off.app hat hs5 HOFF.out
            clear hb5 hbz hg6 hgb hat
            have HBW5 := Lib.hid hbw5; clear hbw5
            have HS5 := Lib.hid hs5; clear hs5
            have HO5 := Lib.hid ho5; clear ho5
            have HM5 := Lib.hid hm5; clear hm5
            have HRUN := Lib.hid hrun; clear hrun
            have HOWN := Lib.hid hown; clear hown
            have HB6 := Lib.hid hb6; clear hb6
            have HS6 := Lib.hid hs6; clear hs6
            have HOF6 := Lib.hid hof6; clear hof6
            go_wp2_with (at_builtin; refine wpList_append_run rfl _ _ _ rfl _ _ rfl rfl _ _ HRUN.out ?_)
            go_roundw
            case rel => exact ⟨k + 1, _, _, _, (st.1 ++ [m], st.2), by omega, by go_num, rfl, HOWN.out, HS6.out, HOF6.out, by simp; omega, HB6.out, HSTEP.out.symm⟩
            case measure => simp [intOf]; omega
      · obtain rfl : l = k := by omega
        rw [List.take_of_length_le (by rw [HSL.out.len]; exact Nat.le_refl _)] at hst
        obtain ⟨oA, oc, hv, hos⟩ := ho.sl (by have := HSL.out.small; omega)
        subst hv
        have HO := Lib.hid ho; clear ho
        have HBS := Lib.hid hbs; clear hbs
        have HOFF := Lib.hid hoff; clear hoff
        have HBW := Lib.hid hbw; clear hbw
        have HST := Lib.hid hst; clear hst
        have HOS := Lib.hid hos; clear hos
        go_wp2_with fail
        go_ret3
        exact ⟨_, _, _, _, _, _, rfl, by rw [← HST.out]; exact HOS.out, by rw [← HST.out]; exact HBS.out, bel_trans HB2.out HBW.out⟩
end Go.Proofs.YtdmcclfagjgcgaaGreat

/- The law ReductClosed: it answers true and changes nothing that was there. -/
import Derived.Test.YtcbkkjcleiibfaaCls
import Derived.Test.YtcbkkjcleiibfaaInn
import Derived.Test.YtcbkkjcleiibfaaDfw
import Derived.Test.YtcbkkjcleiibfaaMdp
import Derived.Test.YtcbkkjcleiibfaaWr1
import Derived.Deep.RegionHeld3
namespace Go.Proofs.Ytcbkkjcleiibfaa
open Go.RowKit

structure ClosedAll (p : GProg) (N : Nat) (m : List Int) : Prop where
  n : p.n = (N : Int)
  wl : ∀ r ∈ p.rules, r.sum = true → r.w.length = r.body.length
  law : ClosedLaw (defL p.rules) N m
theorem closed_all {p : GProg} (hf : fewB p = true) (hv : validE p = 0) (m : List Int) : ∃ N : Nat, ClosedAll p N m := by
  have h0 := valid_n hv
  have h1 := few_n hf
  have h2 := few_head hf
  have hR := (validE_is hv).rules
  have hd := defL_def hR
  have e : p.n = ((p.n.toNat : Nat) : Int) := by omega
  exact ⟨p.n.toNat, e, fun r hr => (hR r hr).wlen, closed_law (by rw [← e]; exact defB_of h0 (by omega) (by unfold defL; rw [List.length_map]; omega) hd) (def_sum hf hv) m⟩
/-- The atoms of rounds below k among the first q. -/
def befL (f : Nat → Int) (q : Nat) (k : Int) : List Int := ((List.range q).filter fun b => decide (0 < f b) && decide (f b < k)).map fun (b : Nat) => (b : Int) + 1
theorem bef_succ (f : Nat → Int) (q : Nat) (k : Int) : befL f (q + 1) k = if (decide (0 < f q) && decide (f q < k)) = true then befL f q k ++ [(q : Int) + 1] else befL f q k := by
  unfold befL
  rw [List.range_succ, List.filter_append, List.map_append]
  by_cases h : (decide (0 < f q) && decide (f q < k)) = true
  · rw [if_pos h]; simp only [List.filter_cons, h, if_true, List.filter_nil, List.map_cons, List.map_nil]
  · rw [if_neg h]; simp only [List.filter_cons, h, Bool.false_eq_true, if_false, List.filter_nil, List.map_nil, List.append_nil]
theorem bef_len (f : Nat → Int) (q : Nat) (k : Int) : (befL f q k).length ≤ q := by
  unfold befL
  rw [List.length_map]
  have := List.length_filter_le (fun b => decide (0 < f b) && decide (f b < k)) (List.range q)
  simpa using this
theorem bef_mem {f : Nat → Int} {q : Nat} {k x : Int} (h : x ∈ befL f q k) : 1 ≤ x ∧ x ≤ (q : Int) := by
  unfold befL at h
  obtain ⟨i, hi, rfl⟩ := List.mem_map.1 h
  have := List.mem_range.1 (List.mem_filter.1 hi).1
  omega
/-- Two rows of the call's own, apart from each other. -/
structure Two (w : World) (base : Nat) (v : Value) (l : Nat) (xs : List Int) (v' : Value) (l' : Nat) (ys : List Int) : Prop where
  one : OwnI w base v l xs
  two : OwnI w base v' l' ys
  ne : ∀ q, v.ownBlock = some q → v'.ownBlock ≠ some q
theorem Two.swap {w : World} {base : Nat} {v v' : Value} {l l' : Nat} {xs ys : List Int} (h : Two w base v l xs v' l' ys) : Two w base v' l' ys v l xs := ⟨h.two, h.one, fun q h1 h2 => h.ne q h2 h1⟩
theorem Two.app {w : World} {base : Nat} {v v' : Value} {l l' : Nat} {xs ys : List Int} (h : Two w base v l xs v' l' ys) (y : Int) (hs : l < 17592186044416) (hb : base ≤ w.heap.size) (ty : TypeId) :
    ∃ u w', (Builtin.append_ #[24, 24] ty #[v, .slice (some ⟨w.heap.size, 0, none⟩) 1 1]).run Try.prog (w.alloc (.cells #[.int .i64 y] 3)) = .ok u w' ∧ Two w' base u (l + 1) (xs ++ [y]) v' l' ys ∧ w.grownBy w' v.ownBlock := by
  obtain ⟨u, w', h1, h2, h3, h4⟩ := app1 h.one y hs hb ty
  refine ⟨u, w', h1, ⟨h2, h.two.kept h3 ?_, fun q hq e => ?_⟩, h3⟩
  · cases hv : v'.ownBlock with
    | none => exact .inl rfl
    | some q => exact .inr fun e => h.ne q e.symm hv
  · rcases h4 q hq with h5 | h5
    · exact h.ne q h5 e
    · have := (h.two.2.lt q e).2; omega
theorem Two.bel {w w' : World} {base : Nat} {v v' : Value} {l l' : Nat} {xs ys : List Int} (h : Two w base v l xs v' l' ys) (hb : Below w.heap.size w w') : Two w' base v l xs v' l' ys := ⟨h.one.bel hb, h.two.bel hb, h.ne⟩

set_option maxRecDepth 100000 in
set_option maxHeartbeats 4000000 in
theorem reductClosed_any (p : GProg) (nA : Option Addr) (nl nc : Nat) (sA : Option Addr) (sl sc : Nat) (rA : Option Addr) (rl rc : Nat) (mA : Option Addr) (ml mc : Nat) (a : Int) (w : World) (hp : ProgIn w p nA nl nc sA sl sc rA rl rc mA ml mc) (ha0 : 0 ≤ a) (ha1 : a ≤ 65535) :
    Calls Try.prog 6 #[.agg #[.int .i64 p.n, .slice nA nl nc, .slice sA sl sc, .slice rA rl rc, .slice mA ml mc], .int .u16 a] w fun e w' => e = .returned (.bool true) ∧ Below w.heap.size w w' := by
  have cF := fun W (hb : Below w.heap.size w W) => few_any p nA nl nc sA sl sc rA rl rc mA ml mc W (hp.ext hb)
  have cV := fun W (hb : Below w.heap.size w W) => valid_any p nA nl nc sA sl sc rA rl rc mA ml mc W (hp.ext hb)
  have cA := awake_any
  cases hf : fewB p with
  | false =>
    rw [hf] at cF
    have HF := Lib.hid hf; clear hf
    have CF := Lib.hid cF; clear cF
    have CV := Lib.hid cV; clear cV
    have CA := Lib.hid cA; clear cA
    have HP := Lib.hid hp; clear hp
    go_enter Try.func6, Try.ntmps6
    go_wp2_with fail
    go_fit (CF.out _ (bel_alloc _ _)); rintro e w1 ⟨rfl, hb1⟩
    have HB1 := Lib.hid (bel_trans (bel_alloc _ _) hb1)
    clear hb1
    go_wp2_with fail
    go_fit (CA.out _); rintro e w2 ⟨rfl, hb2⟩
    have HB2 := Lib.hid (bel_trans HB1.out hb2)
    clear hb2
    go_wp2_with fail
    go_ret
    exact ⟨rfl, HB2.out⟩
  | true =>
    rw [hf] at cF
    by_cases hv : validE p = 0
    · have hN2 := few_n hf
      have hN0 := valid_n hv
      have hN3 : p.n ≤ 4000 := by omega
      have hrl := (few_head hf).1
      rw [← hp.rules.len] at hrl
      obtain ⟨N, hL⟩ := closed_all hf hv (subsetL p.n a)
      have L := Lib.hid hL
      clear hL
      rw [hv] at cV
      have cS := fun W => subset_any p.n a W hN3 hN0 ha0 ha1
      generalize hm' : subsetL p.n a = m at *
      clear hm'
      have cR := fun A l c rs W (h : SlIs ruleR W A l c rs) (hd : defB N rs = true) => rounds_any A l c rs N W h hd
      have cL := fun A l c rs W (h : SlIs ruleR W A l c rs) (hd : defB N rs = true) => least_any A l c rs N W h hd
      simp only [← L.out.n] at cR cL
      have hdd : defB p.n (defL p.rules) = true := by rw [L.out.n]; exact L.out.law.d
      have HF := Lib.hid hf; clear hf
      have HV := Lib.hid hv; clear hv
      have CF := Lib.hid cF; clear cF
      have CV := Lib.hid cV; clear cV
      have CA := Lib.hid cA; clear cA
      have HP := Lib.hid hp; clear hp
      have CS := Lib.hid cS; clear cS
      have CR := Lib.hid cR; clear cR
      have CL := Lib.hid cL; clear cL
      have HDD := Lib.hid hdd; clear hdd
      go_enter Try.func6, Try.ntmps6
      go_wp2_with fail
      go_fit (CF.out _ (bel_alloc _ _)); rintro e w1 ⟨rfl, hb1⟩
      have hx1 := (Blk.new w 36 #[.int .i64 p.n, .slice nA nl nc, .slice sA sl sc, .slice rA rl rc, .slice mA ml mc]).bel hb1
      obtain ⟨p0, p1, p2, p3, p4, p5⟩ := pcells hx1
      have HB1 := Lib.hid (bel_trans (bel_alloc _ _) hb1)
      clear hb1
      have HX1 := Lib.hid hx1; clear hx1
      go_wp2_with fail
      go_fit (CV.out _ HB1.out); rintro e w2 ⟨rfl, hb2⟩
      have hx2 := HX1.out.bel hb2
      clear p0 p1 p2 p3 p4 p5
      obtain ⟨p0, p1, p2, p3, p4, p5⟩ := pcells hx2
      have HB2 := Lib.hid (bel_trans HB1.out hb2)
      clear hb2
      have hp2 := HP.out.ext HB2.out
      have HX2 := Lib.hid hx2; clear hx2
      have HP2 := Lib.hid hp2; clear hp2
      go_wp2_with fail
      go_fit (lawDefinite_any rA rl rc p.rules p.n _ HP2.out.rules L.out.wl (by omega)); rintro e w3 ⟨dA, dc, rfl, hd, hb3⟩
      have hx3 := HX2.out.bel hb3
      clear p0 p1 p2 p3 p4 p5
      obtain ⟨p0, p1, p2, p3, p4, p5⟩ := pcells hx3
      have HB3 := Lib.hid (bel_trans HB2.out hb3)
      clear hb3
      have hdc := hd.cap
      have hdm := hd.max
      have HX3 := Lib.hid hx3; clear hx3
      have HD := Lib.hid hd; clear hd
      go_wp2_with fail
      go_fit (CL.out dA rl dc _ _ HD.out HDD.out); rintro e w4 ⟨lA, ll, lc, rfl, hl, hb4⟩
      have hd := HD.out.ext hb4
      have hx4 := HX3.out.bel hb4
      clear p0 p1 p2 p3 p4 p5
      obtain ⟨p0, p1, p2, p3, p4, p5⟩ := pcells hx4
      have HB4 := Lib.hid (bel_trans HB3.out hb4)
      clear hb4 HD
      have hlc := hl.cap
      have hlm := hl.max
      have HX4 := Lib.hid hx4; clear hx4
      have HD := Lib.hid hd; clear hd
      have HL := Lib.hid hl; clear hl
      go_wp2_with fail
      go_fit (CR.out dA rl dc _ _ HD.out HDD.out); rintro e w5 ⟨oA, ol, oc, rfl, ho, hb5⟩
      have hd := HD.out.ext hb5
      have hl := HL.out.ext hb5
      have hx5 := HX4.out.bel hb5
      clear p0 p1 p2 p3 p4 p5
      obtain ⟨p0, p1, p2, p3, p4, p5⟩ := pcells hx5
      have HB5 := Lib.hid (bel_trans HB4.out hb5)
      clear hb5 HD HL
      have hoc := ho.cap
      have hom := ho.max
      have hol : (ol : Int) = p.n := by rw [ho.len, L.out.n]; simp [roundsL]
      have holb : ((ol : Int) != p.n) = false := by rw [hol]; simp
      have cT := set_any lA ll lc (leastL (defL p.rules) N) p.n w5 hl
      rw [L.out.n, L.out.law.set, ← L.out.n] at cT
      have HX5 := Lib.hid hx5; clear hx5
      have HD := Lib.hid hd; clear hd
      have HL := Lib.hid hl; clear hl
      have HO := Lib.hid ho; clear ho
      have HOL := Lib.hid hol; clear hol
      have CT := Lib.hid cT; clear cT
      go_wp2_with fail
      go_fit CT.out; rintro e w6 ⟨rfl, rfl⟩
      go_wp2_with fail
      go_fit (CS.out _); rintro e w6 ⟨A1, l1, c1, rfl, hm, hb6⟩
      have hd := HD.out.ext hb6
      have hl := HL.out.ext hb6
      have ho := HO.out.ext hb6
      have hx6 := HX5.out.bel hb6
      clear p0 p1 p2 p3 p4 p5
      have HB6 := Lib.hid (bel_trans HB5.out hb6)
      clear hb6 HD HL HO
      have hmc := hm.cap
      have hmm := hm.max
      have HX6 := Lib.hid hx6; clear hx6
      have HD := Lib.hid hd; clear hd
      have HL := Lib.hid hl; clear hl
      have HO := Lib.hid ho; clear ho
      have HM := Lib.hid hm; clear hm
      go_wp2_with fail
      go_loopw [11, 78] (fun u t wr => ∃ (j : Nat) (z : Bool), j ≤ rl ∧ u = .bool z ∧ t = .int .i64 (j : Int) ∧ z = ((defL p.rules).take j).all (okM m) ∧ Below w6.heap.size w6 wr) (fun _ t _ => rl - (intOf t).toNat)
      case atStart => exact ⟨0, true, Nat.zero_le _, rfl, rfl, by simp, Below.refl _ _⟩
      case round =>
        obtain ⟨j, z, hj, rfl, rfl, hz, hb⟩ := hrel
        have hdr := HD.out.ext hb
        have hlr := HL.out.ext hb
        have hmr := HM.out.ext hb
        by_cases hlt : j < rl
        · obtain ⟨r, hri, -⟩ := hdr.drop hlt
          have hle := L.out.law.least r (List.mem_of_getElem? hri)
          have hz1 : (z && okM m r) = ((defL p.rules).take (j + 1)).all (okM m) := by rw [take_snoc' hri, List.all_append, ← hz]; simp
          obtain ⟨bb, off, hA, hl, hc, bA, bl, bc, wA, wl, wc, rfl, hbl2, d0, d1, d2, d3, d4, d5, g1, g2, g3, g4⟩ := hdr.rule hri
          have j0 : (0 : Int) ≤ (j : Int) := by omega
          have j1 : (j : Int) < (rl : Int) := by omega
          have hRI : RuleIn wr r hA hl hc bA bl bc wA wl wc := ⟨g1, g2, g3, g4⟩
          have cB1 := fun W (hb : Below wr.heap.size wr W) => bodyOut_any r hA hl hc bA bl bc wA wl wc lA ll lc (leastL (defL p.rules) N) W (hRI.ext hb) (hlr.ext hb)
          have cB2 := fun W (hb : Below wr.heap.size wr W) => bodyOut_any r hA hl hc bA bl bc wA wl wc A1 l1 c1 m W (hRI.ext hb) (hmr.ext hb)
          have cI1 := fun W (hb : Below wr.heap.size wr W) => in_any hA hl hc lA ll lc r.head (leastL (defL p.rules) N) W (g1.ext hb) (hlr.ext hb)
          have cI2 := fun W (hb : Below wr.heap.size wr W) => in_any hA hl hc A1 l1 c1 r.head m W (g1.ext hb) (hmr.ext hb)
          have hhl := g1.len
          have hok : okM m r = (decide (hl = 0) || (!bodyC r m || inB r.head m)) := by unfold okM; rw [hhl]
          rw [← hhl] at hle
          rw [hok] at hz1
          clear hok
          generalize bodyC r (leastL (defL p.rules) N) = y1 at *
          generalize bodyC r m = y2 at *
          generalize inB r.head (leastL (defL p.rules) N) = y3 at *
          generalize inB r.head m = y4 at *
          have HB := Lib.hid hb
          clear hb
          by_cases h0 : hl = 0
          · subst h0
            have hz2 : z = ((defL p.rules).take (j + 1)).all (okM m) := by simpa using hz1
            have HDR := Lib.hid hdr; clear hdr
            have HLR := Lib.hid hlr; clear hlr
            have HMR := Lib.hid hmr; clear hmr
            have HRI := Lib.hid hri; clear hri
            have G1 := Lib.hid g1; clear g1
            have G2 := Lib.hid g2; clear g2
            have G3 := Lib.hid g3; clear g3
            have G4 := Lib.hid g4; clear g4
            have HRI := Lib.hid hRI; clear hRI
            have CB1 := Lib.hid cB1; clear cB1
            have CB2 := Lib.hid cB2; clear cB2
            have CI1 := Lib.hid cI1; clear cI1
            have CI2 := Lib.hid cI2; clear cI2
            have HLE := Lib.hid hle; clear hle
            have HZ := Lib.hid hz; clear hz
            have HZ1 := Lib.hid hz1; clear hz1
            have HZ2 := Lib.hid hz2; clear hz2
            have HHL := Lib.hid hhl; clear hhl
            go_wp2_with fail
            go_roundw
            case rel => exact ⟨j + 1, z, by omega, rfl, by go_num, HZ2.out, bel_trans HB.out (bel_alloc _ _)⟩
            case measure => simp [intOf]; omega
          · have hle := hle h0
            have e0 : ((hl : Int) == 0) = false := by simpa using h0
            rw [decide_eq_false h0, Bool.false_or] at hz1
            cases y1 with
            | false =>
              cases z with
              | false =>
                have HDR := Lib.hid hdr; clear hdr
                have HLR := Lib.hid hlr; clear hlr
                have HMR := Lib.hid hmr; clear hmr
                have HRI := Lib.hid hri; clear hri
                have G1 := Lib.hid g1; clear g1
                have G2 := Lib.hid g2; clear g2
                have G3 := Lib.hid g3; clear g3
                have G4 := Lib.hid g4; clear g4
                have HRI := Lib.hid hRI; clear hRI
                have CB1 := Lib.hid cB1; clear cB1
                have CB2 := Lib.hid cB2; clear cB2
                have CI1 := Lib.hid cI1; clear cI1
                have CI2 := Lib.hid cI2; clear cI2
                have HLE := Lib.hid hle; clear hle
                have HZ := Lib.hid hz; clear hz
                have HZ1 := Lib.hid hz1; clear hz1
                have HHL := Lib.hid hhl; clear hhl
                go_wp2_with fail
                go_fit (CB1.out _ (bel_alloc _ _)); rintro e w7 ⟨rfl, hb7⟩
                have hx7 := (Blk.new wr 26 #[.bool r.choice, .slice hA hl hc, .bool r.sum, .int .i64 r.bound, .slice bA bl bc, .slice wA wl wc]).bel hb7
                obtain ⟨q0, q1, q2, q3, q4, q5, q6⟩ := rcells hx7
                have HBX := Lib.hid (bel_trans (bel_alloc wr _) hb7)
                have HB7 := Lib.hid (bel_trans HB.out HBX.out)
                clear hb7
                have HX7 := Lib.hid hx7; clear hx7
                go_wp2_with fail
                go_roundw
                case rel => exact ⟨j + 1, false, by omega, rfl, by go_num, by rw [← HZ1.out]; rfl, HB7.out⟩
                case measure => simp [intOf]; omega
              | true =>
                cases y2 with
                | false =>
                  have HDR := Lib.hid hdr; clear hdr
                  have HLR := Lib.hid hlr; clear hlr
                  have HMR := Lib.hid hmr; clear hmr
                  have HRI := Lib.hid hri; clear hri
                  have G1 := Lib.hid g1; clear g1
                  have G2 := Lib.hid g2; clear g2
                  have G3 := Lib.hid g3; clear g3
                  have G4 := Lib.hid g4; clear g4
                  have HRI := Lib.hid hRI; clear hRI
                  have CB1 := Lib.hid cB1; clear cB1
                  have CB2 := Lib.hid cB2; clear cB2
                  have CI1 := Lib.hid cI1; clear cI1
                  have CI2 := Lib.hid cI2; clear cI2
                  have HLE := Lib.hid hle; clear hle
                  have HZ := Lib.hid hz; clear hz
                  have HZ1 := Lib.hid hz1; clear hz1
                  have HHL := Lib.hid hhl; clear hhl
                  go_wp2_with fail
                  go_fit (CB1.out _ (bel_alloc _ _)); rintro e w7 ⟨rfl, hb7⟩
                  have hx7 := (Blk.new wr 26 #[.bool r.choice, .slice hA hl hc, .bool r.sum, .int .i64 r.bound, .slice bA bl bc, .slice wA wl wc]).bel hb7
                  obtain ⟨q0, q1, q2, q3, q4, q5, q6⟩ := rcells hx7
                  have HBX := Lib.hid (bel_trans (bel_alloc wr _) hb7)
                  have HB7 := Lib.hid (bel_trans HB.out HBX.out)
                  clear hb7
                  have HX7 := Lib.hid hx7; clear hx7
                  go_wp2_with fail
                  go_fit (CB2.out _ HBX.out); rintro e w9 ⟨rfl, hb9⟩
                  have HB9 := Lib.hid (bel_trans HB7.out hb9)
                  clear hb9
                  go_wp2_with fail
                  go_roundw
                  case rel => exact ⟨j + 1, true, by omega, rfl, by go_num, by rw [← HZ1.out]; rfl, HB9.out⟩
                  case measure => simp [intOf]; omega
                | true =>
                  have HDR := Lib.hid hdr; clear hdr
                  have HLR := Lib.hid hlr; clear hlr
                  have HMR := Lib.hid hmr; clear hmr
                  have HRI := Lib.hid hri; clear hri
                  have G1 := Lib.hid g1; clear g1
                  have G2 := Lib.hid g2; clear g2
                  have G3 := Lib.hid g3; clear g3
                  have G4 := Lib.hid g4; clear g4
                  have HRI := Lib.hid hRI; clear hRI
                  have CB1 := Lib.hid cB1; clear cB1
                  have CB2 := Lib.hid cB2; clear cB2
                  have CI1 := Lib.hid cI1; clear cI1
                  have CI2 := Lib.hid cI2; clear cI2
                  have HLE := Lib.hid hle; clear hle
                  have HZ := Lib.hid hz; clear hz
                  have HZ1 := Lib.hid hz1; clear hz1
                  have HHL := Lib.hid hhl; clear hhl
                  go_wp2_with fail
                  go_fit (CB1.out _ (bel_alloc _ _)); rintro e w7 ⟨rfl, hb7⟩
                  have hx7 := (Blk.new wr 26 #[.bool r.choice, .slice hA hl hc, .bool r.sum, .int .i64 r.bound, .slice bA bl bc, .slice wA wl wc]).bel hb7
                  obtain ⟨q0, q1, q2, q3, q4, q5, q6⟩ := rcells hx7
                  have HBX := Lib.hid (bel_trans (bel_alloc wr _) hb7)
                  have HB7 := Lib.hid (bel_trans HB.out HBX.out)
                  clear hb7
                  have HX7 := Lib.hid hx7; clear hx7
                  go_wp2_with fail
                  go_fit (CB2.out _ HBX.out); rintro e w9 ⟨rfl, hb9⟩
                  have hx9 := HX7.out.bel hb9
                  clear q0 q1 q2 q3 q4 q5 q6
                  obtain ⟨q0, q1, q2, q3, q4, q5, q6⟩ := rcells hx9
                  have HBY := Lib.hid (bel_trans HBX.out hb9)
                  have HB9 := Lib.hid (bel_trans HB7.out hb9)
                  clear hb9
                  have HX9 := Lib.hid hx9; clear hx9
                  go_wp2_with fail
                  go_fit (CI2.out _ HBY.out); rintro e wa ⟨rfl, rfl⟩
                  go_wp2_with fail
                  go_roundw
                  case rel => exact ⟨j + 1, y4, by omega, rfl, by go_num, by rw [← HZ1.out]; simp, HB9.out⟩
                  case measure => simp [intOf]; omega
            | true =>
              obtain rfl := hle rfl
              cases z with
              | false =>
                have HDR := Lib.hid hdr; clear hdr
                have HLR := Lib.hid hlr; clear hlr
                have HMR := Lib.hid hmr; clear hmr
                have HRI := Lib.hid hri; clear hri
                have G1 := Lib.hid g1; clear g1
                have G2 := Lib.hid g2; clear g2
                have G3 := Lib.hid g3; clear g3
                have G4 := Lib.hid g4; clear g4
                have HRI := Lib.hid hRI; clear hRI
                have CB1 := Lib.hid cB1; clear cB1
                have CB2 := Lib.hid cB2; clear cB2
                have CI1 := Lib.hid cI1; clear cI1
                have CI2 := Lib.hid cI2; clear cI2
                have HLE := Lib.hid hle; clear hle
                have HZ := Lib.hid hz; clear hz
                have HZ1 := Lib.hid hz1; clear hz1
                have HHL := Lib.hid hhl; clear hhl
                go_wp2_with fail
                go_fit (CB1.out _ (bel_alloc _ _)); rintro e w7 ⟨rfl, hb7⟩
                have hx7 := (Blk.new wr 26 #[.bool r.choice, .slice hA hl hc, .bool r.sum, .int .i64 r.bound, .slice bA bl bc, .slice wA wl wc]).bel hb7
                obtain ⟨q0, q1, q2, q3, q4, q5, q6⟩ := rcells hx7
                have HBX := Lib.hid (bel_trans (bel_alloc wr _) hb7)
                have HB7 := Lib.hid (bel_trans HB.out HBX.out)
                clear hb7
                have HX7 := Lib.hid hx7; clear hx7
                go_wp2_with fail
                go_fit (CI1.out _ HBX.out); rintro e w8 ⟨rfl, rfl⟩
                go_wp2_with fail
                go_roundw
                case rel => exact ⟨j + 1, false, by omega, rfl, by go_num, by rw [← HZ1.out]; rfl, HB7.out⟩
                case measure => simp [intOf]; omega
              | true =>
                cases y2 with
                | false =>
                  have HDR := Lib.hid hdr; clear hdr
                  have HLR := Lib.hid hlr; clear hlr
                  have HMR := Lib.hid hmr; clear hmr
                  have HRI := Lib.hid hri; clear hri
                  have G1 := Lib.hid g1; clear g1
                  have G2 := Lib.hid g2; clear g2
                  have G3 := Lib.hid g3; clear g3
                  have G4 := Lib.hid g4; clear g4
                  have HRI := Lib.hid hRI; clear hRI
                  have CB1 := Lib.hid cB1; clear cB1
                  have CB2 := Lib.hid cB2; clear cB2
                  have CI1 := Lib.hid cI1; clear cI1
                  have CI2 := Lib.hid cI2; clear cI2
                  have HLE := Lib.hid hle; clear hle
                  have HZ := Lib.hid hz; clear hz
                  have HZ1 := Lib.hid hz1; clear hz1
                  have HHL := Lib.hid hhl; clear hhl
                  go_wp2_with fail
                  go_fit (CB1.out _ (bel_alloc _ _)); rintro e w7 ⟨rfl, hb7⟩
                  have hx7 := (Blk.new wr 26 #[.bool r.choice, .slice hA hl hc, .bool r.sum, .int .i64 r.bound, .slice bA bl bc, .slice wA wl wc]).bel hb7
                  obtain ⟨q0, q1, q2, q3, q4, q5, q6⟩ := rcells hx7
                  have HBX := Lib.hid (bel_trans (bel_alloc wr _) hb7)
                  have HB7 := Lib.hid (bel_trans HB.out HBX.out)
                  clear hb7
                  have HX7 := Lib.hid hx7; clear hx7
                  go_wp2_with fail
                  go_fit (CI1.out _ HBX.out); rintro e w8 ⟨rfl, rfl⟩
                  go_wp2_with fail
                  go_fit (CB2.out _ HBX.out); rintro e w9 ⟨rfl, hb9⟩
                  have HB9 := Lib.hid (bel_trans HB7.out hb9)
                  clear hb9
                  go_wp2_with fail
                  go_roundw
                  case rel => exact ⟨j + 1, true, by omega, rfl, by go_num, by rw [← HZ1.out]; rfl, HB9.out⟩
                  case measure => simp [intOf]; omega
                | true =>
                  have HDR := Lib.hid hdr; clear hdr
                  have HLR := Lib.hid hlr; clear hlr
                  have HMR := Lib.hid hmr; clear hmr
                  have HRI := Lib.hid hri; clear hri
                  have G1 := Lib.hid g1; clear g1
                  have G2 := Lib.hid g2; clear g2
                  have G3 := Lib.hid g3; clear g3
                  have G4 := Lib.hid g4; clear g4
                  have HRI := Lib.hid hRI; clear hRI
                  have CB1 := Lib.hid cB1; clear cB1
                  have CB2 := Lib.hid cB2; clear cB2
                  have CI1 := Lib.hid cI1; clear cI1
                  have CI2 := Lib.hid cI2; clear cI2
                  have HLE := Lib.hid hle; clear hle
                  have HZ := Lib.hid hz; clear hz
                  have HZ1 := Lib.hid hz1; clear hz1
                  have HHL := Lib.hid hhl; clear hhl
                  go_wp2_with fail
                  go_fit (CB1.out _ (bel_alloc _ _)); rintro e w7 ⟨rfl, hb7⟩
                  have hx7 := (Blk.new wr 26 #[.bool r.choice, .slice hA hl hc, .bool r.sum, .int .i64 r.bound, .slice bA bl bc, .slice wA wl wc]).bel hb7
                  obtain ⟨q0, q1, q2, q3, q4, q5, q6⟩ := rcells hx7
                  have HBX := Lib.hid (bel_trans (bel_alloc wr _) hb7)
                  have HB7 := Lib.hid (bel_trans HB.out HBX.out)
                  clear hb7
                  have HX7 := Lib.hid hx7; clear hx7
                  go_wp2_with fail
                  go_fit (CI1.out _ HBX.out); rintro e w8 ⟨rfl, rfl⟩
                  go_wp2_with fail
                  go_fit (CB2.out _ HBX.out); rintro e w9 ⟨rfl, hb9⟩
                  have hx9 := HX7.out.bel hb9
                  clear q0 q1 q2 q3 q4 q5 q6
                  obtain ⟨q0, q1, q2, q3, q4, q5, q6⟩ := rcells hx9
                  have HBY := Lib.hid (bel_trans HBX.out hb9)
                  have HB9 := Lib.hid (bel_trans HB7.out hb9)
                  clear hb9
                  have HX9 := Lib.hid hx9; clear hx9
                  go_wp2_with fail
                  go_fit (CI2.out _ HBY.out); rintro e wa ⟨rfl, rfl⟩
                  go_wp2_with fail
                  go_roundw
                  case rel => exact ⟨j + 1, y4, by omega, rfl, by go_num, by rw [← HZ1.out]; simp, HB9.out⟩
                  case measure => simp [intOf]; omega
        · rw [List.take_of_length_le (by rw [← hdr.len]; omega)] at hz
          have hsm := L.out.law.small
          rw [← hz] at hsm
          have cI := fun W (hb : Below wr.heap.size wr W) => in_any lA ll lc A1 l1 c1 (leastL (defL p.rules) N) m W (hlr.ext hb) (hmr.ext hb)
          have hx7 := HX6.out.bel hb
          have hor := HO.out.ext hb
          have HB7 := Lib.hid (bel_trans HB6.out hb)
          clear hb
          have hdr' := hdr
          have hlr' := hlr
          obtain ⟨f, hfd⟩ : ∃ f, f = (stageF (defL p.rules) N N).1 := ⟨_, rfl⟩
          have f1 : ∀ j : Nat, j < N → decide (0 < f j) = inB [(j : Int) + 1] (leastL (defL p.rules) N) := by rw [hfd]; exact L.out.law.has
          have f2 : ∀ j : Nat, j < N → 0 < f j → (defL p.rules).any (nowB ((j : Int) + 1) (befL f N (f j))) = true := by rw [hfd]; exact L.out.law.now
          have f3 : ∀ j : Nat, j < N → 1 < f j → (defL p.rules).any (nowB ((j : Int) + 1) (befL f N (f j - 1))) = false := by rw [hfd]; exact L.out.law.soon
          have f4 : ∀ j : Nat, j < N → (roundsL (defL p.rules) N)[j]? = some (f j) := fun j hj => by rw [hfd]; simp [roundsL, hj]
          have f5 : ∀ j, 0 ≤ f j ∧ f j ≤ (N : Int) := by rw [hfd]; exact stage_bd _ _ _
          have hNn := L.out.n
          have hN4 : N ≤ 12 := by omega
          clear hfd
          obtain ⟨wq, rfl⟩ : ∃ wq : World, wq = wr := ⟨_, rfl⟩
          cases z
          case' false =>
            have HDR := Lib.hid hdr; clear hdr
            have HLR := Lib.hid hlr; clear hlr
            have HMR := Lib.hid hmr; clear hmr
            have HZ := Lib.hid hz; clear hz
            have HSM := Lib.hid hsm; clear hsm
            have CI := Lib.hid cI; clear cI
            have HX7 := Lib.hid hx7; clear hx7
            have HOR := Lib.hid hor; clear hor
            have HDR' := Lib.hid hdr'; clear hdr'
            have HLR' := Lib.hid hlr'; clear hlr'
            have F1 := Lib.hid f1; clear f1
            have F2 := Lib.hid f2; clear f2
            have F3 := Lib.hid f3; clear f3
            have F4 := Lib.hid f4; clear f4
            have F5 := Lib.hid f5; clear f5
            have HNN := Lib.hid hNn; clear hNn
            go_wp2_with fail
          case' true =>
            rw [hsm rfl] at cI
            have HDR := Lib.hid hdr; clear hdr
            have HLR := Lib.hid hlr; clear hlr
            have HMR := Lib.hid hmr; clear hmr
            have HZ := Lib.hid hz; clear hz
            have HSM := Lib.hid hsm; clear hsm
            have CI := Lib.hid cI; clear cI
            have HX7 := Lib.hid hx7; clear hx7
            have HOR := Lib.hid hor; clear hor
            have HDR' := Lib.hid hdr'; clear hdr'
            have HLR' := Lib.hid hlr'; clear hlr'
            have F1 := Lib.hid f1; clear f1
            have F2 := Lib.hid f2; clear f2
            have F3 := Lib.hid f3; clear f3
            have F4 := Lib.hid f4; clear f4
            have F5 := Lib.hid f5; clear f5
            have HNN := Lib.hid hNn; clear hNn
            go_wp2_with fail
            go_fit (CI.out _ (Below.refl _ _)); rintro e w8 ⟨rfl, rfl⟩
            go_wp2_with fail
          all_goals
            go_loopw [14] (fun t wx => ∃ q : Nat, q ≤ N ∧ t = .int .i64 ((q : Int) + 1) ∧ Below wq.heap.size wq wx) (fun t _ => N + 1 - (intOf t).toNat)
            case atStart => exact ⟨0, Nat.zero_le _, by go_num, Below.refl _ _⟩
            case round =>
              obtain ⟨q, hq, rfl, hb⟩ := hrel
              have hxx := HX7.out.bel hb
              obtain ⟨p0, p1, p2, p3, p4, p5⟩ := pcells hxx
              have hN5 := HNN.out
              by_cases hlq : q < N
              · have hor := HOR.out.ext hb
                have hlr := HLR.out.ext hb
                have hdr := HDR.out.ext hb
                have hk := F4.out q hlq
                have h5 := F5.out q
                have h1 := F1.out q hlq
                have h2 := F2.out q hlq
                have h3 := F3.out q hlq
                generalize f q = k at *
                obtain ⟨h6, h7⟩ := h5
                obtain ⟨ob, oo, rfl, lo, co, _⟩ := hor.int hk
                have hol := hor.len
                have hol2 : ol = N := by rw [hol]; simp [roundsL]
                have cI3 := in_any (some ⟨wr.heap.size, 0, none⟩) 1 1 lA ll lc [(q : Int) + 1] (leastL (defL p.rules) N) (wr.alloc (.cells #[.int .i64 ((q : Int) + 1)] 3)) (slx wr [(q : Int) + 1] 1 _ rfl rfl (by simp [I64]; omega) (by omega)) (hlr.ext (bel_alloc _ _))
                rw [← h1] at cI3
                have hbn : (decide (0 < k) != decide (0 < k)) = false := by simp
                have q0 : (0 : Int) ≤ (q : Int) := by omega
                have q1 : (q : Int) < (ol : Int) := by omega
                have q2 : (q : Int) + 1 ≤ p.n := by omega
                have wk : IntKind.i64.wrap (k - 1) = k - 1 := IntWalk.i64_in _ (by omega)
                have hby := bel_alloc wr (.cells #[.int .i64 ((q : Int) + 1)] 3)
                have hbw := bel_trans hb hby
                clear hol
                subst hol2
                have HXX := Lib.hid hxx; clear hxx
                have HOR := Lib.hid hor; clear hor
                have HLR := Lib.hid hlr; clear hlr
                have HDR := Lib.hid hdr; clear hdr
                have HK := Lib.hid hk; clear hk
                have H1 := Lib.hid h1; clear h1
                have H2 := Lib.hid h2; clear h2
                have H3 := Lib.hid h3; clear h3
                have CI3 := Lib.hid cI3; clear cI3
                have HB := Lib.hid hb; clear hb
                have HBW := Lib.hid hbw; clear hbw
                have HBY := Lib.hid hby; clear hby
                have HN5 := Lib.hid hN5; clear hN5
                go_wp2_with fail
                go_fit CI3.out; rintro e wb ⟨rfl, rfl⟩
                go_wp2_with fail
                clear p0 p1 p2 p3 p4 p5
                have hsw : wr.heap.size ≤ (wr.alloc (.cells #[.int .i64 ((q : Int) + 1)] 3)).heap.size := (bel_alloc _ _).size
                generalize wr.alloc (.cells #[.int .i64 ((q : Int) + 1)] 3) = wy at *
                obtain ⟨wp, rfl⟩ : ∃ wp : World, wp = wr := ⟨_, rfl⟩
                go_loopw [16, 17, 137] (fun v1 v2 t wz => ∃ (i l1 l2 : Nat), i ≤ ol ∧ t = .int .i64 (i : Int) ∧ Two wz wy.heap.size v1 l1 (befL f i k) v2 l2 (befL f i (k - 1)) ∧ Below wy.heap.size wy wz) (fun _ _ t _ => ol - (intOf t).toNat)
                case atStart => exact ⟨0, 0, 0, Nat.zero_le _, rfl, ⟨OwnI.nil _ _, OwnI.nil _ _, by simp [Value.ownBlock]⟩, Below.refl _ _⟩
                case round =>
                  obtain ⟨i, l1, l2, hi, rfl, hT, hb⟩ := hrel
                  have hl1 : l1 ≤ i := by rw [hT.one.len]; exact bef_len _ _ _
                  have hl2 : l2 ≤ i := by rw [hT.two.len]; exact bef_len _ _ _
                  have hsz := hb.size
                  by_cases hlt3 : i < ol
                  · have hi4 := F4.out i hlt3
                    have e1 := bef_succ f i k
                    have e2 := bef_succ f i (k - 1)
                    obtain ⟨h8, h9⟩ := F5.out i
                    generalize f i = n at *
                    obtain ⟨_, _, he, _, co, _⟩ := (HOR.out.ext (bel_trans HBY.out hb)).int hi4
                    cases he
                    have i0 : (0 : Int) ≤ (i : Int) := by omega
                    have i1 : (i : Int) < (ol : Int) := by omega
                    by_cases t1 : 0 < n
                    · have u1 : decide (0 < n) = true := decide_eq_true t1
                      rw [u1, Bool.true_and] at e1 e2
                      by_cases t2 : n < k
                      · have u2 : decide (n < k) = true := decide_eq_true t2
                        rw [u2, if_pos rfl] at e1
                        obtain ⟨v1', w3, hrun, hT3, hg3⟩ := hT.app ((i : Int) + 1) (by omega) hsz 24
                        have hb3 := bel_grown hb hg3 hsz (fun z hz => (hT.one.2.lt z hz).1)
                        by_cases t3 : n < k - 1
                        · have u3 : decide (n < k - 1) = true := decide_eq_true t3
                          rw [u3, if_pos rfl] at e2
                          obtain ⟨v2', w4, hrun4, hT4, hg4⟩ := hT3.swap.app ((i : Int) + 1) (by omega) hb3.size 24
                          have hb4 := bel_grown hb3 hg4 hb3.size (fun z hz => (hT3.two.2.lt z hz).1)
                          have HT := Lib.hid hT; clear hT
                          have HT3 := Lib.hid hT3; clear hT3
                          have HT4 := Lib.hid hT4; clear hT4
                          have HRUN := Lib.hid hrun; clear hrun
                          have HRUN4 := Lib.hid hrun4; clear hrun4
                          have HG3 := Lib.hid hg3; clear hg3
                          have HG4 := Lib.hid hg4; clear hg4
                          have HB := Lib.hid hb; clear hb
                          have HB3 := Lib.hid hb3; clear hb3
                          have HB4 := Lib.hid hb4; clear hb4
                          have E1 := Lib.hid e1; clear e1
                          have E2 := Lib.hid e2; clear e2
                          have HI4 := Lib.hid hi4; clear hi4
                          go_wp2_with (first
                            | (at_builtin; refine wpList_append_run rfl _ _ _ rfl _ _ rfl rfl _ _ HRUN.out ?_)
                            | (at_builtin; refine wpList_append_run rfl _ _ _ rfl _ _ rfl rfl _ _ HRUN4.out ?_))
                          go_roundw
                          case rel => exact ⟨i + 1, _, _, by omega, by go_num, by rw [E1.out, E2.out]; exact HT4.out.swap, HB4.out⟩
                          case measure => simp [intOf]; omega
                        · have u3 : decide (n < k - 1) = false := decide_eq_false t3
                          rw [u3, if_neg (by simp)] at e2
                          have HT := Lib.hid hT; clear hT
                          have HT3 := Lib.hid hT3; clear hT3
                          have HRUN := Lib.hid hrun; clear hrun
                          have HG3 := Lib.hid hg3; clear hg3
                          have HB := Lib.hid hb; clear hb
                          have HB3 := Lib.hid hb3; clear hb3
                          have E1 := Lib.hid e1; clear e1
                          have E2 := Lib.hid e2; clear e2
                          have HI4 := Lib.hid hi4; clear hi4
                          go_wp2_with (at_builtin; refine wpList_append_run rfl _ _ _ rfl _ _ rfl rfl _ _ HRUN.out ?_)
                          go_roundw
                          case rel => exact ⟨i + 1, _, _, by omega, by go_num, by rw [E1.out, E2.out]; exact HT3.out, HB3.out⟩
                          case measure => simp [intOf]; omega
                      · have u2 : decide (n < k) = false := decide_eq_false t2
                        have t3 : ¬ n < k - 1 := by omega
                        have u3 : decide (n < k - 1) = false := decide_eq_false t3
                        rw [u2, if_neg (by simp)] at e1
                        rw [u3, if_neg (by simp)] at e2
                        have HT := Lib.hid hT; clear hT
                        have HB := Lib.hid hb; clear hb
                        have E1 := Lib.hid e1; clear e1
                        have E2 := Lib.hid e2; clear e2
                        have HI4 := Lib.hid hi4; clear hi4
                        go_wp2_with fail
                        go_roundw
                        case rel => exact ⟨i + 1, _, _, by omega, by go_num, by rw [E1.out, E2.out]; exact HT.out, HB.out⟩
                        case measure => simp [intOf]; omega
                    · have u1 : decide (0 < n) = false := decide_eq_false t1
                      rw [u1, Bool.false_and, if_neg (by simp)] at e1 e2
                      have HT := Lib.hid hT; clear hT
                      have HB := Lib.hid hb; clear hb
                      have E1 := Lib.hid e1; clear e1
                      have E2 := Lib.hid e2; clear e2
                      have HI4 := Lib.hid hi4; clear hi4
                      go_wp2_with fail
                      go_roundw
                      case rel => exact ⟨i + 1, _, _, by omega, by go_num, by rw [E1.out, E2.out]; exact HT.out, HB.out⟩
                      case measure => simp [intOf]; omega
                  · have hil : i = ol := by omega
                    subst hil
                    obtain ⟨bA1, bc1, rfl, hs1⟩ := hT.one.sl (by omega) (fun x hx => by have := bef_mem hx; unfold I64; omega)
                    obtain ⟨bA2, bc2, rfl, hs2⟩ := hT.two.sl (by omega) (fun x hx => by have := bef_mem hx; unfold I64; omega)
                    have hdr := HDR.out.ext (bel_trans HBY.out hb)
                    have HB9 := Lib.hid (bel_trans HBW.out hb)
                    have HT := Lib.hid hT; clear hT
                    have HS1 := Lib.hid hs1; clear hs1
                    have HS2 := Lib.hid hs2; clear hs2
                    have HDR := Lib.hid hdr; clear hdr
                    have HB := Lib.hid hb; clear hb
                    go_wp2_with fail
                    obtain ⟨wv, rfl⟩ : ∃ wv : World, wv = wr := ⟨_, rfl⟩
                    clear hlt3 hl1 hl2 hsz
                    go_loopw [20, 21, 170] (fun b1 b2 t wu => ∃ (j : Nat) (z1 z2 : Bool), j ≤ rl ∧ b1 = .bool z1 ∧ b2 = .bool z2 ∧ t = .int .i64 (j : Int) ∧ z1 = ((defL p.rules).take j).any (nowB ((q : Int) + 1) (befL f i k)) ∧ z2 = ((defL p.rules).take j).any (nowB ((q : Int) + 1) (befL f i (k - 1))) ∧ Below wv.heap.size wv wu) (fun _ _ t _ => rl - (intOf t).toNat)
                    case atStart => exact ⟨0, false, false, Nat.zero_le _, rfl, rfl, rfl, by simp, by simp, Below.refl _ _⟩
                    case round =>
                      obtain ⟨j, z1, z2, hj, rfl, rfl, rfl, hz1, hz2, hb⟩ := hrel
                      by_cases hlt4 : j < rl
                      · have hdu := HDR.out.ext hb
                        have hs1u := HS1.out.ext hb
                        have hs2u := HS2.out.ext hb
                        obtain ⟨r, hri, -⟩ := hdu.drop hlt4
                        replace hz1 : (z1 || (headB ((q : Int) + 1) r && bodyC r (befL f i k))) = ((defL p.rules).take (j + 1)).any (nowB ((q : Int) + 1) (befL f i k)) := by rw [take_snoc' hri, List.any_append, ← hz1]; simp [nowB]
                        replace hz2 : (z2 || (headB ((q : Int) + 1) r && bodyC r (befL f i (k - 1)))) = ((defL p.rules).take (j + 1)).any (nowB ((q : Int) + 1) (befL f i (k - 1))) := by rw [take_snoc' hri, List.any_append, ← hz2]; simp [nowB]
                        obtain ⟨bb, off, hA, hl, hc, bA, bl, bc, wA, wl, wc, rfl, hbl2, d0, d1, d2, d3, d4, d5, g1, g2, g3, g4⟩ := hdu.rule hri
                        have j0 : (0 : Int) ≤ (j : Int) := by omega
                        have j1 : (j : Int) < (rl : Int) := by omega
                        have hRI : RuleIn wr r hA hl hc bA bl bc wA wl wc := ⟨g1, g2, g3, g4⟩
                        have cB1 := fun W (hb : Below wr.heap.size wr W) => bodyOut_any r hA hl hc bA bl bc wA wl wc bA1 l1 bc1 (befL f i k) W (hRI.ext hb) (hs1u.ext hb)
                        have cB2 := fun W (hb : Below wr.heap.size wr W) => bodyOut_any r hA hl hc bA bl bc wA wl wc bA2 l2 bc2 (befL f i (k - 1)) W (hRI.ext hb) (hs2u.ext hb)
                        generalize bodyC r (befL f i k) = y1 at cB1 hz1
                        generalize bodyC r (befL f i (k - 1)) = y2 at cB2 hz2
                        by_cases h0 : hl = 0
                        · have hh : headB ((q : Int) + 1) r = false := by
                            unfold headB
                            have : r.head = [] := List.eq_nil_of_length_eq_zero (by rw [← g1.len]; exact h0)
                            rw [this]; simp
                          rw [hh, Bool.false_and, Bool.or_false] at hz1 hz2
                          subst h0
                          have HZ1 := Lib.hid hz1; clear hz1
                          have HZ2 := Lib.hid hz2; clear hz2
                          have HRI := Lib.hid hri; clear hri
                          have G1 := Lib.hid g1; clear g1
                          have G2 := Lib.hid g2; clear g2
                          have G3 := Lib.hid g3; clear g3
                          have G4 := Lib.hid g4; clear g4
                          have HRI := Lib.hid hRI; clear hRI
                          have CB1 := Lib.hid cB1; clear cB1
                          have CB2 := Lib.hid cB2; clear cB2
                          have HDU := Lib.hid hdu; clear hdu
                          have HS1U := Lib.hid hs1u; clear hs1u
                          have HS2U := Lib.hid hs2u; clear hs2u
                          have HB := Lib.hid hb; clear hb
                          have HH := Lib.hid hh; clear hh
                          go_wp2_with fail
                          go_roundw
                          case rel => exact ⟨j + 1, z1, z2, by omega, rfl, rfl, by go_num, by first | exact HZ1.out | (rw [← HZ1.out]; simp), by first | exact HZ2.out | (rw [← HZ2.out]; simp), bel_trans HB.out (bel_alloc _ _)⟩
                          case measure => simp [intOf]; omega
                        · have hl0 : 0 < hl := by omega
                          have hl3 : (0 : Int) < (hl : Int) := by omega
                          obtain ⟨x, hx, hdx⟩ := g1.drop hl0
                          obtain ⟨xb, xo, rfl, lx, cx, _⟩ := g1.int hx
                          simp only [Nat.add_zero] at cx
                          have hh : headB ((q : Int) + 1) r = decide (x = (q : Int) + 1) := by
                            unfold headB
                            rw [show r.head.head? = some x from by rw [List.head?_eq_getElem?]; exact hx]
                            simp
                          clear hdx
                          have HX := Lib.hid hx; clear hx
                          by_cases hxq : x = (q : Int) + 1
                          · have e1 : (x == (q : Int) + 1) = true := by simpa using hxq
                            rw [hh, decide_eq_true hxq, Bool.true_and] at hz1 hz2
                            clear hh
                            have hh : True := trivial
                            have HXQ := Lib.hid hxq; clear hxq
                            cases z1 with
                            | false =>
                              cases z2 with
                              | false =>
                                have HZ1 := Lib.hid hz1; clear hz1
                                have HZ2 := Lib.hid hz2; clear hz2
                                have HRI := Lib.hid hri; clear hri
                                have G1 := Lib.hid g1; clear g1
                                have G2 := Lib.hid g2; clear g2
                                have G3 := Lib.hid g3; clear g3
                                have G4 := Lib.hid g4; clear g4
                                have HRI := Lib.hid hRI; clear hRI
                                have CB1 := Lib.hid cB1; clear cB1
                                have CB2 := Lib.hid cB2; clear cB2
                                have HDU := Lib.hid hdu; clear hdu
                                have HS1U := Lib.hid hs1u; clear hs1u
                                have HS2U := Lib.hid hs2u; clear hs2u
                                have HB := Lib.hid hb; clear hb
                                have HH := Lib.hid hh; clear hh
                                go_wp2_with fail
                                go_fit (CB1.out _ (bel_alloc _ _)); rintro e x1 ⟨rfl, hx1⟩
                                have hbk1 := (Blk.new wr 26 #[.bool r.choice, .slice (some ⟨xb, xo, none⟩) hl hc, .bool r.sum, .int .i64 r.bound, .slice bA bl bc, .slice wA wl wc]).bel hx1
                                have HY1 := Lib.hid (bel_trans (bel_alloc wr _) hx1)
                                obtain ⟨s0, s1, s2, s3, s4, s5, s6⟩ := rcells hbk1
                                clear hx1
                                have HBK1 := Lib.hid hbk1; clear hbk1
                                go_wp2_with fail
                                go_fit (CB2.out _ HY1.out); rintro e x2 ⟨rfl, hx2⟩
                                have hbk2 := HBK1.out.bel hx2
                                have HY2 := Lib.hid (bel_trans HY1.out hx2)
                                clear s0 s1 s2 s3 s4 s5 s6
                                obtain ⟨s0, s1, s2, s3, s4, s5, s6⟩ := rcells hbk2
                                clear hx2
                                have HBK2 := Lib.hid hbk2; clear hbk2
                                go_wp2_with fail
                                go_roundw
                                case rel => exact ⟨j + 1, y1, y2, by omega, rfl, rfl, by go_num, by first | exact HZ1.out | (rw [← HZ1.out]; simp), by first | exact HZ2.out | (rw [← HZ2.out]; simp), bel_trans HB.out HY2.out⟩
                                case measure => simp [intOf]; omega
                              | true =>
                                have HZ1 := Lib.hid hz1; clear hz1
                                have HZ2 := Lib.hid hz2; clear hz2
                                have HRI := Lib.hid hri; clear hri
                                have G1 := Lib.hid g1; clear g1
                                have G2 := Lib.hid g2; clear g2
                                have G3 := Lib.hid g3; clear g3
                                have G4 := Lib.hid g4; clear g4
                                have HRI := Lib.hid hRI; clear hRI
                                have CB1 := Lib.hid cB1; clear cB1
                                have CB2 := Lib.hid cB2; clear cB2
                                have HDU := Lib.hid hdu; clear hdu
                                have HS1U := Lib.hid hs1u; clear hs1u
                                have HS2U := Lib.hid hs2u; clear hs2u
                                have HB := Lib.hid hb; clear hb
                                have HH := Lib.hid hh; clear hh
                                go_wp2_with fail
                                go_fit (CB1.out _ (bel_alloc _ _)); rintro e x1 ⟨rfl, hx1⟩
                                have hbk1 := (Blk.new wr 26 #[.bool r.choice, .slice (some ⟨xb, xo, none⟩) hl hc, .bool r.sum, .int .i64 r.bound, .slice bA bl bc, .slice wA wl wc]).bel hx1
                                have HY1 := Lib.hid (bel_trans (bel_alloc wr _) hx1)
                                obtain ⟨s0, s1, s2, s3, s4, s5, s6⟩ := rcells hbk1
                                clear hx1
                                have HBK1 := Lib.hid hbk1; clear hbk1
                                go_wp2_with fail
                                go_roundw
                                case rel => exact ⟨j + 1, y1, true, by omega, rfl, rfl, by go_num, by first | exact HZ1.out | (rw [← HZ1.out]; simp), by first | exact HZ2.out | (rw [← HZ2.out]; simp), bel_trans HB.out HY1.out⟩
                                case measure => simp [intOf]; omega
                            | true =>
                              cases z2 with
                              | false =>
                                have HZ1 := Lib.hid hz1; clear hz1
                                have HZ2 := Lib.hid hz2; clear hz2
                                have HRI := Lib.hid hri; clear hri
                                have G1 := Lib.hid g1; clear g1
                                have G2 := Lib.hid g2; clear g2
                                have G3 := Lib.hid g3; clear g3
                                have G4 := Lib.hid g4; clear g4
                                have HRI := Lib.hid hRI; clear hRI
                                have CB1 := Lib.hid cB1; clear cB1
                                have CB2 := Lib.hid cB2; clear cB2
                                have HDU := Lib.hid hdu; clear hdu
                                have HS1U := Lib.hid hs1u; clear hs1u
                                have HS2U := Lib.hid hs2u; clear hs2u
                                have HB := Lib.hid hb; clear hb
                                have HH := Lib.hid hh; clear hh
                                go_wp2_with fail
                                go_fit (CB2.out _ (bel_alloc _ _)); rintro e x2 ⟨rfl, hx2⟩
                                have hbk2 := (Blk.new wr 26 #[.bool r.choice, .slice (some ⟨xb, xo, none⟩) hl hc, .bool r.sum, .int .i64 r.bound, .slice bA bl bc, .slice wA wl wc]).bel hx2
                                have HY2 := Lib.hid (bel_trans (bel_alloc wr _) hx2)
                                obtain ⟨s0, s1, s2, s3, s4, s5, s6⟩ := rcells hbk2
                                clear hx2
                                have HBK2 := Lib.hid hbk2; clear hbk2
                                go_wp2_with fail
                                go_roundw
                                case rel => exact ⟨j + 1, true, y2, by omega, rfl, rfl, by go_num, by first | exact HZ1.out | (rw [← HZ1.out]; simp), by first | exact HZ2.out | (rw [← HZ2.out]; simp), bel_trans HB.out HY2.out⟩
                                case measure => simp [intOf]; omega
                              | true =>
                                have HZ1 := Lib.hid hz1; clear hz1
                                have HZ2 := Lib.hid hz2; clear hz2
                                have HRI := Lib.hid hri; clear hri
                                have G1 := Lib.hid g1; clear g1
                                have G2 := Lib.hid g2; clear g2
                                have G3 := Lib.hid g3; clear g3
                                have G4 := Lib.hid g4; clear g4
                                have HRI := Lib.hid hRI; clear hRI
                                have CB1 := Lib.hid cB1; clear cB1
                                have CB2 := Lib.hid cB2; clear cB2
                                have HDU := Lib.hid hdu; clear hdu
                                have HS1U := Lib.hid hs1u; clear hs1u
                                have HS2U := Lib.hid hs2u; clear hs2u
                                have HB := Lib.hid hb; clear hb
                                have HH := Lib.hid hh; clear hh
                                go_wp2_with fail
                                go_roundw
                                case rel => exact ⟨j + 1, true, true, by omega, rfl, rfl, by go_num, by first | exact HZ1.out | (rw [← HZ1.out]; simp), by first | exact HZ2.out | (rw [← HZ2.out]; simp), bel_trans HB.out (bel_alloc _ _)⟩
                                case measure => simp [intOf]; omega
                          · have e1 : (x == (q : Int) + 1) = false := by simpa using hxq
                            rw [hh, decide_eq_false hxq, Bool.false_and, Bool.or_false] at hz1 hz2
                            clear hh
                            have hh : True := trivial
                            have HXQ := Lib.hid hxq; clear hxq
                            have HZ1 := Lib.hid hz1; clear hz1
                            have HZ2 := Lib.hid hz2; clear hz2
                            have HRI := Lib.hid hri; clear hri
                            have G1 := Lib.hid g1; clear g1
                            have G2 := Lib.hid g2; clear g2
                            have G3 := Lib.hid g3; clear g3
                            have G4 := Lib.hid g4; clear g4
                            have HRI := Lib.hid hRI; clear hRI
                            have CB1 := Lib.hid cB1; clear cB1
                            have CB2 := Lib.hid cB2; clear cB2
                            have HDU := Lib.hid hdu; clear hdu
                            have HS1U := Lib.hid hs1u; clear hs1u
                            have HS2U := Lib.hid hs2u; clear hs2u
                            have HB := Lib.hid hb; clear hb
                            have HH := Lib.hid hh; clear hh
                            go_wp2_with fail
                            go_roundw
                            case rel => exact ⟨j + 1, z1, z2, by omega, rfl, rfl, by go_num, by first | exact HZ1.out | (rw [← HZ1.out]; simp), by first | exact HZ2.out | (rw [← HZ2.out]; simp), bel_trans HB.out (bel_alloc _ _)⟩
                            case measure => simp [intOf]; omega
                      · rw [List.take_of_length_le (by rw [← HDR.out.len]; omega)] at hz1 hz2
                        have HBU := Lib.hid (bel_trans HB9.out hb)
                        by_cases k1 : 0 < k
                        · have n1 : z1 = true := by rw [hz1]; exact H2.out k1
                          subst n1
                          by_cases k2 : 1 < k
                          · have n2 : z2 = false := by rw [hz2]; exact H3.out k2
                            subst n2
                            have HZ1 := Lib.hid hz1; clear hz1
                            have HZ2 := Lib.hid hz2; clear hz2
                            have HB := Lib.hid hb; clear hb
                            go_wp2_with fail
                            go_roundw
                            case rel => exact ⟨q + 1, by omega, by go_num, HBU.out⟩
                            case measure => simp [intOf]; omega
                          · have HZ1 := Lib.hid hz1; clear hz1
                            have HZ2 := Lib.hid hz2; clear hz2
                            have HB := Lib.hid hb; clear hb
                            go_wp2_with fail
                            go_roundw
                            case rel => exact ⟨q + 1, by omega, by go_num, HBU.out⟩
                            case measure => simp [intOf]; omega
                        · have HZ1 := Lib.hid hz1; clear hz1
                          have HZ2 := Lib.hid hz2; clear hz2
                          have HB := Lib.hid hb; clear hb
                          go_wp2_with fail
                          go_roundw
                          case rel => exact ⟨q + 1, by omega, by go_num, HBU.out⟩
                          case measure => simp [intOf]; omega
              · have hql : q = N := by omega
                subst hql
                have q2 : ¬ (q : Int) + 1 ≤ p.n := by omega
                have HB8 := Lib.hid (bel_trans HB7.out hb)
                have HXX := Lib.hid hxx; clear hxx
                have HB := Lib.hid hb; clear hb
                have HN5 := Lib.hid hN5; clear hN5
                go_wp2_with fail
                go_fit (CA.out _); rintro e w9 ⟨rfl, hb9⟩
                have HBA := Lib.hid (bel_trans HB8.out hb9)
                clear hb9
                go_wp2_with fail
                go_ret
                exact ⟨rfl, HBA.out⟩
    · generalize validE p = v at *
      have q1 : (v != 0) = true := by simpa using hv
      have HF := Lib.hid hf; clear hf
      have HV := Lib.hid hv; clear hv
      have CF := Lib.hid cF; clear cF
      have CV := Lib.hid cV; clear cV
      have CA := Lib.hid cA; clear cA
      have HP := Lib.hid hp; clear hp
      go_enter Try.func6, Try.ntmps6
      go_wp2_with fail
      go_fit (CF.out _ (bel_alloc _ _)); rintro e w1 ⟨rfl, hb1⟩
      have hx1 := (Blk.new w 36 #[.int .i64 p.n, .slice nA nl nc, .slice sA sl sc, .slice rA rl rc, .slice mA ml mc]).bel hb1
      obtain ⟨p0, p1, p2, p3, p4, p5⟩ := pcells hx1
      have HB1 := Lib.hid (bel_trans (bel_alloc _ _) hb1)
      clear hb1
      have HX1 := Lib.hid hx1; clear hx1
      go_wp2_with fail
      go_fit (CV.out _ HB1.out); rintro e w2 ⟨rfl, hb2⟩
      have HB2 := Lib.hid (bel_trans HB1.out hb2)
      clear hb2
      go_wp2_with fail
      go_fit (CA.out _); rintro e w3 ⟨rfl, hb3⟩
      have HB3 := Lib.hid (bel_trans HB2.out hb3)
      clear hb3
      go_wp2_with fail
      go_ret
      exact ⟨rfl, HB3.out⟩
end Go.Proofs.Ytcbkkjcleiibfaa

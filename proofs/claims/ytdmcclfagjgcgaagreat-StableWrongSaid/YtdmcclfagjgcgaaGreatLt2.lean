/- The law StableWrong: it answers true and changes nothing that was there. -/
import Derived.Test.YtdmcclfagjgcgaaGreatSl3
import Derived.Test.YtdmcclfagjgcgaaGreatSwb
import Derived.Test.YtdmcclfagjgcgaaGreatGE
namespace Go.Proofs.YtdmcclfagjgcgaaGreat
open Go.RowKit

theorem few_sizes {w : World} {p : GProg} {nA : Option Addr} {nl nc : Nat} {sA : Option Addr} {sl sc : Nat} {rA : Option Addr} {rl rc : Nat} {mA : Option Addr} {ml mc : Nat} (hp : ProgIn w p nA nl nc sA sl sc rA rl rc mA ml mc) (hf : fewB p = true) (hi : ProgIs p) : (nl ≤ 100000 ∧ sl ≤ 100000 ∧ ml ≤ 100000) ∧ rl ≤ 16 ∧
    (∀ r ∈ p.rules, r.head.length ≤ 100000 ∧ r.body.length ≤ 100000 ∧ r.w.length ≤ 100000) ∧ ∀ r ∈ p.min, r.lits.length ≤ 100000 ∧ r.w.length ≤ 100000 := by
  have h1 := (few_head hf).1
  have h2 := few_n hf
  have h3 := hi.named
  have hn0 := (namedB_n h3).1
  unfold namedB at h3
  simp only [Bool.and_eq_true, decide_eq_true_eq] at h3
  have h4 := inc_lenN hn0 h3.1.2
  have h5 := hp.names.len
  have h6 := hp.shown.len
  have h7 := hp.min.len
  have h8 := hp.rules.len
  have h9 := hi.mins
  refine ⟨⟨by omega, by omega, by omega⟩, by omega, fun r hr => ?_, fun r hr => ?_⟩
  · have := few_rule hf r hr; omega
  · unfold fewB at hf
    simp only [Bool.and_eq_true, decide_eq_true_eq, List.all_eq_true] at hf
    have := hf.2.2.2 r hr
    omega
set_option maxRecDepth 100000 in
set_option maxHeartbeats 4000000 in
theorem stableWrong_law (p : GProg) (nA : Option Addr) (nl nc : Nat) (sA : Option Addr) (sl sc : Nat) (rA : Option Addr) (rl rc : Nat) (mA : Option Addr) (ml mc : Nat) (a : Nat) (ha : a < 256) (w : World) (hp : ProgIn w p nA nl nc sA sl sc rA rl rc mA ml mc) :
    Calls Tryz.prog 6 #[.agg #[.int .i64 p.n, .slice nA nl nc, .slice sA sl sc, .slice rA rl rc, .slice mA ml mc], .int .u8 (a : Int)] w fun e w' => e = .returned (.bool true) ∧ Below w.heap.size w w' := by
  have cSm := fun W (hb : Below w.heap.size w W) => small_any p nA nl nc sA sl sc rA rl rc mA ml mc W (hp.ext hb)
  have cA := awake20_any
  have hx0 := Blk.new w 27 #[.int .i64 p.n, .slice nA nl nc, .slice sA sl sc, .slice rA rl rc, .slice mA ml mc]
  cases hq : smallB p with
  | false =>
    rw [hq] at cSm
    have HP := Lib.hid hp; clear hp
    have CSM := Lib.hid cSm; clear cSm
    have CA := Lib.hid cA; clear cA
    have HX0 := Lib.hid hx0; clear hx0
    have HQ := Lib.hid hq; clear hq
    go_enter Tryz.func6, Tryz.ntmps6
    go_wp2_with fail
    go_fit (CSM.out _ (bel_alloc _ _)); rintro e w1 ⟨rfl, hb1⟩
    have HBW := Lib.hid (bel_trans (bel_alloc _ _) hb1)
    have HX := Lib.hid (HX0.out.bel hb1)
    clear hb1
    obtain ⟨p0, p1, p2, p3, p4, p5⟩ := pcells HX.out
    go_wp2_with fail
    go_fit (CA.out _); rintro e wz ⟨rfl, hbz⟩
    replace HBW := Lib.hid (bel_trans HBW.out hbz)
    go_wp2_with fail
    go_ret
    exact ⟨rfl, HBW.out⟩
  | true =>
    rw [hq] at cSm
    obtain ⟨hfew, hn6, hv⟩ := small_is hq
    have hpi := validE_is hv
    have hn0 := valid_n hv
    have CSM := Lib.hid cSm; clear cSm
    have CA := Lib.hid cA; clear cA
    have HX0 := Lib.hid hx0; clear hx0
    go_enter Tryz.func6, Tryz.ntmps6
    go_wp2_with fail
    go_fit (CSM.out _ (bel_alloc _ _)); rintro e w1 ⟨rfl, hb1⟩
    have HBW := Lib.hid (bel_trans (bel_alloc _ _) hb1)
    have HX := Lib.hid (HX0.out.bel hb1)
    clear hb1
    obtain ⟨p0, p1, p2, p3, p4, p5⟩ := pcells HX.out
    by_cases hz : p.n = 0
    · have hz1 : p.n ≤ 0 := by omega
      clear hz
      have HP := Lib.hid hp; clear hp
      have HQ := Lib.hid hq; clear hq
      have HV := Lib.hid hv; clear hv
      have HPI := Lib.hid hpi; clear hpi
      have HFEW := Lib.hid hfew; clear hfew
      go_wp2_with fail
      go_fit (CA.out _); rintro e wz ⟨rfl, hbz⟩
      replace HBW := Lib.hid (bel_trans HBW.out hbz)
      go_wp2_with fail
      go_ret
      exact ⟨rfl, HBW.out⟩
    · have hn1 : 1 ≤ p.n := by omega
      obtain ⟨c, hc4, hca⟩ : ∃ c : Nat, c < 4 ∧ a % 4 = c := ⟨a % 4, Nat.mod_lt _ (by omega), rfl⟩
      rcases (by omega : c = 0 ∨ c = 1 ∨ c = 2 ∨ c = 3) with rfl | rfl | rfl | rfl
      · have h170 := wr_case0 hpi
        have hck : checkE { p with n := p.n + 1 } [] = 170 := by unfold checkE; rw [if_pos (by rw [h170]; decide), h170]
        have hal : allE { p with n := p.n + 1 } = 170 := by unfold allE; rw [if_pos (by rw [h170]; decide), h170]
        have hco : costsE { p with n := p.n + 1 } [] = [] := by unfold costsE; rw [if_neg (by rw [hck]; decide)]
        have hqi : ∀ W, Below w.heap.size w W → ProgIn W { p with n := p.n + 1 } nA nl nc sA sl sc rA rl rc mA ml mc := fun W hb => ⟨(by unfold I64; show _ ≤ p.n + 1 ∧ p.n + 1 ≤ _; omega), (hp.ext hb).names, (hp.ext hb).shown, (hp.ext hb).rules, (hp.ext hb).min⟩
        have cI : ∀ W, Below w.heap.size w W → Calls Tryz.prog 28 #[.agg #[.int .i64 (p.n + 1), .slice nA nl nc, .slice sA sl sc, .slice rA rl rc, .slice mA ml mc], .slice none 0 0] W fun e w' => e = .returned (.tuple #[.bool false, .int .i64 170]) ∧ Below W.heap.size W w' := fun W hb => by
          have h := stableIs_err _ nA nl nc sA sl sc rA rl rc mA ml mc none 0 0 [] W (hqi W hb) (SlIs.nil _ _) (by rw [hck]; decide)
          rw [hck] at h; exact h
        have cAl : ∀ W, Below w.heap.size w W → Calls Tryz.prog 25 #[.agg #[.int .i64 (p.n + 1), .slice nA nl nc, .slice sA sl sc, .slice rA rl rc, .slice mA ml mc]] W fun e w' => e = .returned (.tuple #[.slice none 0 0, .int .i64 170]) ∧ Below W.heap.size W w' := fun W hb => by
          have h := all_err _ nA nl nc sA sl sc rA rl rc mA ml mc W (hqi W hb) (by rw [hal]; decide)
          rw [hal] at h; exact h
        have cBe : ∀ W, Below w.heap.size w W → Calls Tryz.prog 29 #[.agg #[.int .i64 (p.n + 1), .slice nA nl nc, .slice sA sl sc, .slice rA rl rc, .slice mA ml mc]] W fun e w' => e = .returned (.tuple #[.slice none 0 0, .slice none 0 0, .int .i64 170]) ∧ Below W.heap.size W w' := fun W hb => by
          have h := best_err _ nA nl nc sA sl sc rA rl rc mA ml mc W (hqi W hb) (by rw [hal]; decide)
          rw [hal] at h; exact h
        have cCo : ∀ W, Below w.heap.size w W → Calls Tryz.prog 26 #[.agg #[.int .i64 (p.n + 1), .slice nA nl nc, .slice sA sl sc, .slice rA rl rc, .slice mA ml mc], .slice none 0 0] W fun e w' => ∃ A c, e = .returned (.tuple #[.slice A 0 c, .int .i64 170]) ∧ Below W.heap.size W w' := fun W hb => by
          refine (stableCosts_any _ nA nl nc sA sl sc rA rl rc mA ml mc none 0 0 [] W (hqi W hb) (SlIs.nil _ _)).mono ?_
          rintro e w' ⟨A, l, c, rfl, hs, hb⟩
          rw [hco] at hs
          obtain rfl : l = 0 := hs.len
          rw [hck]
          exact ⟨A, c, rfl, hb⟩
        have HP := Lib.hid hp; clear hp
        have HQ := Lib.hid hq; clear hq
        have HV := Lib.hid hv; clear hv
        have HPI := Lib.hid hpi; clear hpi
        have HFEW := Lib.hid hfew; clear hfew
        have HQI := Lib.hid hqi; clear hqi
        have CI := Lib.hid cI; clear cI
        have CAL := Lib.hid cAl; clear cAl
        have CBE := Lib.hid cBe; clear cBe
        have CCO := Lib.hid cCo; clear cCo
        have H170 := Lib.hid h170; clear h170
        have HCK := Lib.hid hck; clear hck
        have HAL := Lib.hid hal; clear hal
        have HCO := Lib.hid hco; clear hco
        go_wp2_with fail
        have HXQ := Lib.hid (Blk.new w1 27 #[.int .i64 (p.n + 1), .slice nA nl nc, .slice sA sl sc, .slice rA rl rc, .slice mA ml mc])
        have HBW1 := Lib.hid (bel_trans HBW.out (bel_alloc w1 (.cells #[.int .i64 (p.n + 1), .slice nA nl nc, .slice sA sl sc, .slice rA rl rc, .slice mA ml mc] 27)))
        have HX1 := Lib.hid (HX.out.bel (bel_alloc w1 (.cells #[.int .i64 (p.n + 1), .slice nA nl nc, .slice sA sl sc, .slice rA rl rc, .slice mA ml mc] 27)))
        go_fit (CI.out _ HBW1.out); rintro e w2 ⟨rfl, hb2⟩
        replace HX1 := Lib.hid (HX1.out.bel hb2)
        replace HBW1 := Lib.hid (bel_trans HBW1.out hb2)
        replace HXQ := Lib.hid (HXQ.out.bel hb2)
        clear p0 p1 p2 p3 p4 p5
        obtain ⟨p0, p1, p2, p3, p4, p5⟩ := pcells HXQ.out
        go_wp2_with fail
        go_fit (CAL.out _ HBW1.out); rintro e w3 ⟨rfl, hb3⟩
        replace HX1 := Lib.hid (HX1.out.bel hb3)
        replace HBW1 := Lib.hid (bel_trans HBW1.out hb3)
        replace HXQ := Lib.hid (HXQ.out.bel hb3)
        clear p0 p1 p2 p3 p4 p5
        obtain ⟨p0, p1, p2, p3, p4, p5⟩ := pcells HXQ.out
        go_wp2_with fail
        go_fit (CCO.out _ HBW1.out); rintro e w4 ⟨A, c, rfl, hb4⟩
        replace HX1 := Lib.hid (HX1.out.bel hb4)
        replace HBW1 := Lib.hid (bel_trans HBW1.out hb4)
        replace HXQ := Lib.hid (HXQ.out.bel hb4)
        clear p0 p1 p2 p3 p4 p5
        obtain ⟨p0, p1, p2, p3, p4, p5⟩ := pcells HXQ.out
        go_wp2_with fail
        go_fit (CBE.out _ HBW1.out); rintro e w5 ⟨rfl, hb5⟩
        replace HX1 := Lib.hid (HX1.out.bel hb5)
        replace HBW1 := Lib.hid (bel_trans HBW1.out hb5)
        replace HXQ := Lib.hid (HXQ.out.bel hb5)
        clear p0 p1 p2 p3 p4 p5
        obtain ⟨p0, p1, p2, p3, p4, p5⟩ := pcells HXQ.out
        go_wp2_with fail
        go_fit (CA.out _); rintro e wz ⟨rfl, hbz⟩
        replace HBW1 := Lib.hid (bel_trans HBW1.out hbz)
        go_wp2_with fail
        go_ret
        exact ⟨rfl, HBW1.out⟩
      · have cM : ∀ m : List Int, incB p.n m = false → ∀ A l c W, Below w.heap.size w W → SlIs intR W A l c m →
            Calls Tryz.prog 28 #[.agg #[.int .i64 p.n, .slice nA nl nc, .slice sA sl sc, .slice rA rl rc, .slice mA ml mc], .slice A l c] W (fun e w' => e = .returned (.tuple #[.bool false, .int .i64 2]) ∧ Below W.heap.size W w') ∧
            Calls Tryz.prog 26 #[.agg #[.int .i64 p.n, .slice nA nl nc, .slice sA sl sc, .slice rA rl rc, .slice mA ml mc], .slice A l c] W (fun e w' => ∃ A' c', e = .returned (.tuple #[.slice A' 0 c', .int .i64 2]) ∧ Below W.heap.size W w') ∧
            Calls Tryz.prog 30 #[.int .i64 p.n, .slice rA rl rc, .slice A l c] W (fun e w' => e = .returned (.tuple #[.bool false, .int .i64 2]) ∧ Below W.heap.size W w') := fun m hm A l c W hb hsl => by
          obtain ⟨k1, k2, k3⟩ := wr_check1 hv hm
          have h1 := stableIs_err p nA nl nc sA sl sc rA rl rc mA ml mc A l c m W (hp.ext hb) hsl (by rw [k1]; decide)
          have h3 := stableMinimal_any p.n rA rl rc A l c p.rules m W (hp.ext hb).rules hsl
          rw [k1] at h1
          rw [k2] at h3
          refine ⟨h1, ?_, h3⟩
          refine (stableCosts_any p nA nl nc sA sl sc rA rl rc mA ml mc A l c m W (hp.ext hb) hsl).mono ?_
          rintro e w' ⟨A', l', c', rfl, hs, hb'⟩
          rw [k3] at hs
          obtain rfl : l' = 0 := hs.len
          rw [k1]
          exact ⟨A', c', rfl, hb'⟩
        have h64 : I64 (p.n + 1) ∧ I64 p.n ∧ I64 (p.n - 1) ∧ I64 0 ∧ I64 1 := by unfold I64; omega
        have hall : ∀ m ∈ [[0], [p.n + 1], [1, 1], [p.n, p.n - 1]], incB p.n m = false := fun m hm => wr_case1 (by simpa using hm)
        have HP := Lib.hid hp; clear hp
        have HQ := Lib.hid hq; clear hq
        have HV := Lib.hid hv; clear hv
        have HPI := Lib.hid hpi; clear hpi
        have HFEW := Lib.hid hfew; clear hfew
        have CM := Lib.hid cM; clear cM
        have H64 := Lib.hid h64; clear h64
        have HALL := Lib.hid hall; clear hall
        have q0 : ((w1.alloc (.cells #[.int .i64 0] 3))).cell? ⟨w.heap.size, 0, none⟩ = some (.int .i64 p.n) := (HX.out.alloc _).cell 0
        have q2 : ((((w1.alloc (.cells #[.int .i64 0] 3)).alloc (.cells #[.int .i64 (p.n + 1)] 3)).alloc (.cells #[.int .i64 1, .int .i64 1] 3))).cell? ⟨w.heap.size, 0, none⟩ = some (.int .i64 p.n) := (((HX.out.alloc _).alloc _).alloc _).cell 0
        go_wp2_with fail
        clear q0 q2
        have HBA := Lib.hid (show Below w1.heap.size w1 (((((w1.alloc (.cells #[.int .i64 0] 3)).alloc (.cells #[.int .i64 (p.n + 1)] 3)).alloc (.cells #[.int .i64 1, .int .i64 1] 3)).alloc (.cells #[.int .i64 p.n, .int .i64 (p.n - 1)] 3)).alloc (.cells #[.slice (some ⟨w1.heap.size, 0, none⟩) 1 1, .slice (some ⟨w1.heap.size + 1, 0, none⟩) 1 1, .slice (some ⟨w1.heap.size + 1 + 1, 0, none⟩) 2 2, .slice (some ⟨w1.heap.size + 1 + 1 + 1, 0, none⟩) 2 2] 23)) from bel_trans (bel_trans (bel_trans (bel_trans (bel_alloc w1 _) (bel_alloc _ _)) (bel_alloc _ _)) (bel_alloc _ _)) (bel_alloc _ _))
        have HS := Lib.hid (show SlIs (slR intR) (((((w1.alloc (.cells #[.int .i64 0] 3)).alloc (.cells #[.int .i64 (p.n + 1)] 3)).alloc (.cells #[.int .i64 1, .int .i64 1] 3)).alloc (.cells #[.int .i64 p.n, .int .i64 (p.n - 1)] 3)).alloc (.cells #[.slice (some ⟨w1.heap.size, 0, none⟩) 1 1, .slice (some ⟨w1.heap.size + 1, 0, none⟩) 1 1, .slice (some ⟨w1.heap.size + 1 + 1, 0, none⟩) 2 2, .slice (some ⟨w1.heap.size + 1 + 1 + 1, 0, none⟩) 2 2] 23)) (some ⟨w1.heap.size + 1 + 1 + 1 + 1, 0, none⟩) 4 4 [[0], [p.n + 1], [1, 1], [p.n, p.n - 1]] from sl_setsAt (cs := [.slice (some ⟨w1.heap.size, 0, none⟩) 1 1, .slice (some ⟨w1.heap.size + 1, 0, none⟩) 1 1, .slice (some ⟨w1.heap.size + 1 + 1, 0, none⟩) 2 2, .slice (some ⟨w1.heap.size + 1 + 1 + 1, 0, none⟩) 2 2]) (blk_new (by simp) _ _)
          ⟨ints_of (sl_ints [0] (((((Blk.new w1 3 #[.int .i64 0]).alloc _).alloc _).alloc _).alloc _) rfl (by omega) (fun x hx => by simp at hx; subst hx; exact H64.out.2.2.2.1)),
           ints_of (sl_ints [p.n + 1] ((((blk_new (by simp) 3 #[.int .i64 (p.n + 1)]).alloc _).alloc _).alloc _) rfl (by omega) (fun x hx => by simp at hx; subst hx; exact H64.out.1)),
           ints_of (sl_ints [1, 1] (((blk_new (by simp) 3 #[.int .i64 1, .int .i64 1]).alloc _).alloc _) rfl (by omega) (fun x hx => by simp at hx; subst hx; exact H64.out.2.2.2.2)),
           ints_of (sl_ints [p.n, p.n - 1] ((blk_new (by simp) 3 #[.int .i64 p.n, .int .i64 (p.n - 1)]).alloc _) rfl (by omega) (fun x hx => by simp at hx; rcases hx with rfl | rfl; exact H64.out.2.1; exact H64.out.2.2.1)), trivial⟩ rfl (by omega))
        generalize (((((w1.alloc (.cells #[.int .i64 0] 3)).alloc (.cells #[.int .i64 (p.n + 1)] 3)).alloc (.cells #[.int .i64 1, .int .i64 1] 3)).alloc (.cells #[.int .i64 p.n, .int .i64 (p.n - 1)] 3)).alloc (.cells #[.slice (some ⟨w1.heap.size, 0, none⟩) 1 1, .slice (some ⟨w1.heap.size + 1, 0, none⟩) 1 1, .slice (some ⟨w1.heap.size + 1 + 1, 0, none⟩) 2 2, .slice (some ⟨w1.heap.size + 1 + 1 + 1, 0, none⟩) 2 2] 23)) = W5 at *
        replace HX := Lib.hid (HX.out.bel HBA.out)
        replace HBW := Lib.hid (bel_trans HBW.out HBA.out)
        clear p0 p1 p2 p3 p4 p5
        have b1 : (p.n == 0) = false := by simpa using hz
        have b2 : ((a : Int) % 4 == 0) = false := by simp; omega
        have b3 : ((a : Int) % 4 == 1) = true := by simp; omega
        rw [b1, b2, b3]
        clear b1 b2 b3
        go_loopw [135] (fun t wr => ∃ i : Nat, i ≤ 4 ∧ t = .int .i64 (i : Int) ∧ Below W5.heap.size W5 wr) (fun t _ => 4 - (intOf t).toNat)
        case atStart => exact ⟨0, by omega, rfl, Below.refl _ _⟩
        case round =>
          obtain ⟨i, hi, rfl, hb⟩ := hrel
          have hxr := HX.out.bel hb
          have HXR := Lib.hid hxr
          clear hxr
          have HBWR := Lib.hid (bel_trans HBW.out hb)
          by_cases hlt : i < 4
          · obtain ⟨m, hm, -⟩ := HS.out.drop hlt
            obtain ⟨b, off, mA', ml', mc', hA', _, f0, g1⟩ := (HS.out.ext hb).set hm
            injection hA' with hA'
            injection hA' with hA1 hA2
            subst hA1 hA2
            rw [Nat.zero_add] at f0
            have hin := HALL.out m (List.mem_of_getElem? hm)
            have k0 : (0 : Int) ≤ (i : Int) := by omega
            have k1 : (i : Int) < 4 := by omega
            have HG1 := Lib.hid g1
            clear g1
            have HM := Lib.hid hm; clear hm
            have HIN := Lib.hid hin; clear hin
            have HB := Lib.hid hb; clear hb
            obtain ⟨p0, p1, p2, p3, p4, p5⟩ := pcells HXR.out
            go_wp2_with fail
            clear f0
            go_fit (CM.out m HIN.out _ _ _ _ HBWR.out HG1.out).1; rintro e w2 ⟨rfl, hb2⟩
            replace HXR := Lib.hid (HXR.out.bel hb2)
            replace HBWR := Lib.hid (bel_trans HBWR.out hb2)
            replace HG1 := Lib.hid (HG1.out.ext hb2)
            clear p0 p1 p2 p3 p4 p5
            obtain ⟨p0, p1, p2, p3, p4, p5⟩ := pcells HXR.out
            go_wp2_with fail
            go_fit (CM.out m HIN.out _ _ _ _ HBWR.out HG1.out).2.1; rintro e w3 ⟨A', c', rfl, hb3⟩
            replace HXR := Lib.hid (HXR.out.bel hb3)
            replace HBWR := Lib.hid (bel_trans HBWR.out hb3)
            replace HG1 := Lib.hid (HG1.out.ext hb3)
            clear p0 p1 p2 p3 p4 p5
            obtain ⟨p0, p1, p2, p3, p4, p5⟩ := pcells HXR.out
            go_wp2_with fail
            go_fit (CM.out m HIN.out _ _ _ _ HBWR.out HG1.out).2.2; rintro e w4 ⟨rfl, hb4⟩
            replace HXR := Lib.hid (HXR.out.bel hb4)
            replace HBWR := Lib.hid (bel_trans HBWR.out hb4)
            replace HG1 := Lib.hid (HG1.out.ext hb4)
            clear p0 p1 p2 p3 p4 p5
            go_wp2_with fail
            go_roundw
            case rel => exact ⟨i + 1, by omega, by go_num, ((HB.out.trans (hb2.mono HB.out.size)).trans (hb3.mono (by have := HB.out.size; have := hb2.size; omega))).trans (hb4.mono (by have := HB.out.size; have := hb2.size; have := hb3.size; omega))⟩
            case measure => simp [intOf]; omega
          · go_wp2_with fail
            go_fit (CA.out _); rintro e wz ⟨rfl, hbz⟩
            replace HBWR := Lib.hid (bel_trans HBWR.out hbz)
            go_wp2_with fail
            go_ret
            exact ⟨rfl, HBWR.out⟩
      · obtain ⟨k, hk⟩ : ∃ k : Nat, (k : Int) = 13 - p.n := ⟨(13 - p.n).toNat, by omega⟩
        have hkn : p.n + (k : Int) = 13 := by omega
        obtain ⟨s1, s2, s3, s4⟩ := few_sizes hp hfew hpi
        obtain ⟨q, hqe⟩ : ∃ q, q = extP p k [] := ⟨_, rfl⟩
        have hqn : q.n = 13 := by rw [hqe]; exact hkn
        have hqr : q.rules = p.rules := by rw [hqe]; show p.rules ++ [] = _; simp
        have hqi : ProgIs q := by rw [hqe]; exact extP_is hpi (by omega) (by have := hpi.few; simpa using this) (by simp)
        have hqv : validE q = 0 := ex_validE hqi
        have hqd : disB q = disB p := by unfold disB; rw [hqr]
        have hqc : isC q [] (disB q) = isC p [] (disB p) := by rw [isC_is hqi, isC_is hpi, hqe]; exact wr_stable0 hpi (by omega) hn0
        have hq5 : allE q = 5 := by unfold allE; rw [if_neg (by rw [hqv]; decide), if_pos (by rw [hqn]; decide)]
        have hck1 : checkE q [] = 0 := check_of hqv rfl
        have hck2 : checkE p [] = 0 := check_of hv rfl
        have hfl := (few_head hfew).1
        have cE : ∀ W, Below w.heap.size w W → Calls Tryz.prog 18 #[.agg #[.int .i64 p.n, .slice nA nl nc, .slice sA sl sc, .slice rA rl rc, .slice mA ml mc], .int .i64 (13 - p.n), .slice none 0 0] W fun e w' => ∃ (nA' : Option Addr) (nl' nc' : Nat) (sA' : Option Addr) (sl' sc' : Nat) (rA' : Option Addr) (rl' rc' : Nat) (mA' : Option Addr) (ml' mc' : Nat),
            e = .returned (.tuple #[.agg #[.int .i64 13, .slice nA' nl' nc', .slice sA' sl' sc', .slice rA' rl' rc', .slice mA' ml' mc'], .int .i64 0]) ∧ ProgIn w' q nA' nl' nc' sA' sl' sc' rA' rl' rc' mA' ml' mc' ∧ Below W.heap.size W w' := fun W hb => by
          have h := extend_any p nA nl nc sA sl sc rA rl rc mA ml mc k none 0 0 [] W (hp.ext hb) hv (by omega) s1 s3 s4 (SlIs.nil _ _) (by omega) (by simp)
          rw [hkn, hk, ← hqe] at h
          exact h
        have cQ : ∀ (nA' : Option Addr) (nl' nc' : Nat) (sA' : Option Addr) (sl' sc' : Nat) (rA' : Option Addr) (rl' rc' : Nat) (mA' : Option Addr) (ml' mc' : Nat) W, ProgIn W q nA' nl' nc' sA' sl' sc' rA' rl' rc' mA' ml' mc' →
            Calls Tryz.prog 25 #[.agg #[.int .i64 13, .slice nA' nl' nc', .slice sA' sl' sc', .slice rA' rl' rc', .slice mA' ml' mc']] W (fun e w' => e = .returned (.tuple #[.slice none 0 0, .int .i64 5]) ∧ Below W.heap.size W w') ∧
            Calls Tryz.prog 29 #[.agg #[.int .i64 13, .slice nA' nl' nc', .slice sA' sl' sc', .slice rA' rl' rc', .slice mA' ml' mc']] W (fun e w' => e = .returned (.tuple #[.slice none 0 0, .slice none 0 0, .int .i64 5]) ∧ Below W.heap.size W w') ∧
            Calls Tryz.prog 28 #[.agg #[.int .i64 13, .slice nA' nl' nc', .slice sA' sl' sc', .slice rA' rl' rc', .slice mA' ml' mc'], .slice none 0 0] W (fun e w' => e = .returned (.tuple #[.bool (isC p [] (disB p)), .int .i64 0]) ∧ Below W.heap.size W w') := fun nA' nl' nc' sA' sl' sc' rA' rl' rc' mA' ml' mc' W hpq => by
          have h1 := all_err q nA' nl' nc' sA' sl' sc' rA' rl' rc' mA' ml' mc' W hpq (by rw [hq5]; decide)
          have h2 := best_err q nA' nl' nc' sA' sl' sc' rA' rl' rc' mA' ml' mc' W hpq (by rw [hq5]; decide)
          have h3 := stableIs_any q nA' nl' nc' sA' sl' sc' rA' rl' rc' mA' ml' mc' none 0 0 [] W hpq (SlIs.nil _ _) hck1 (by omega) (fun hd => red_def' hqi (by rw [hqn]; omega) (by rw [hqn]; omega) (by rw [hqr]; omega) [] hd) (by rw [hqn]; omega)
          rw [hqn, hq5] at h1 h2
          rw [hqn, hqc] at h3
          exact ⟨h1, h2, h3⟩
        have cI := fun W (hb : Below w.heap.size w W) => stableIs_any p nA nl nc sA sl sc rA rl rc mA ml mc none 0 0 [] W (hp.ext hb) (SlIs.nil _ _) hck2 (by omega) (fun hd => (small_P hq).red [] hd) hn0
        generalize isC p [] (disB p) = v at *
        have HP := Lib.hid hp; clear hp
        have HQ := Lib.hid hq; clear hq
        have HV := Lib.hid hv; clear hv
        have HPI := Lib.hid hpi; clear hpi
        have HFEW := Lib.hid hfew; clear hfew
        have HKN := Lib.hid hkn; clear hkn
        have HK := Lib.hid hk; clear hk
        have HQE := Lib.hid hqe; clear hqe
        have HQN := Lib.hid hqn; clear hqn
        have HQR := Lib.hid hqr; clear hqr
        have HQI := Lib.hid hqi; clear hqi
        have HQV := Lib.hid hqv; clear hqv
        have HQD := Lib.hid hqd; clear hqd
        have HQC := Lib.hid hqc; clear hqc
        have HQ5 := Lib.hid hq5; clear hq5
        have HCK1 := Lib.hid hck1; clear hck1
        have HCK2 := Lib.hid hck2; clear hck2
        have CE := Lib.hid cE; clear cE
        have CQ := Lib.hid cQ; clear cQ
        have CI := Lib.hid cI; clear cI
        go_wp2_with fail
        go_fit (CE.out _ HBW.out); rintro e w2 ⟨nA', nl', nc', sA', sl', sc', rA', rl', rc', mA', ml', mc', rfl, hpq, hb2⟩
        have HPQ := Lib.hid hpq
        clear hpq
        replace HX := Lib.hid (HX.out.bel hb2)
        replace HBW := Lib.hid (bel_trans HBW.out hb2)
        clear p0 p1 p2 p3 p4 p5
        obtain ⟨p0, p1, p2, p3, p4, p5⟩ := pcells HX.out
        go_wp2_with fail
        have HXQ := Lib.hid (Blk.new w2 27 #[.int .i64 13, .slice nA' nl' nc', .slice sA' sl' sc', .slice rA' rl' rc', .slice mA' ml' mc'])
        have HBA := Lib.hid (bel_alloc w2 (.cells #[.int .i64 13, .slice nA' nl' nc', .slice sA' sl' sc', .slice rA' rl' rc', .slice mA' ml' mc'] 27))
        have HBW1 := Lib.hid (bel_trans HBW.out HBA.out)
        have HX1 := Lib.hid (HX.out.bel HBA.out)
        replace HPQ := Lib.hid (HPQ.out.ext HBA.out)
        go_fit ((CQ.out _ _ _ _ _ _ _ _ _ _ _ _ _ HPQ.out).1); rintro e w3 ⟨rfl, hb3⟩
        replace HX1 := Lib.hid (HX1.out.bel hb3)
        replace HBW1 := Lib.hid (bel_trans HBW1.out hb3)
        replace HXQ := Lib.hid (HXQ.out.bel hb3)
        replace HPQ := Lib.hid (HPQ.out.ext hb3)
        clear p0 p1 p2 p3 p4 p5
        obtain ⟨p0, p1, p2, p3, p4, p5⟩ := pcells HXQ.out
        go_wp2_with fail
        go_fit ((CQ.out _ _ _ _ _ _ _ _ _ _ _ _ _ HPQ.out).2.1); rintro e w4 ⟨rfl, hb4⟩
        replace HX1 := Lib.hid (HX1.out.bel hb4)
        replace HBW1 := Lib.hid (bel_trans HBW1.out hb4)
        replace HXQ := Lib.hid (HXQ.out.bel hb4)
        replace HPQ := Lib.hid (HPQ.out.ext hb4)
        clear p0 p1 p2 p3 p4 p5
        obtain ⟨p0, p1, p2, p3, p4, p5⟩ := pcells HXQ.out
        go_wp2_with fail
        go_fit ((CQ.out _ _ _ _ _ _ _ _ _ _ _ _ _ HPQ.out).2.2); rintro e w5 ⟨rfl, hb5⟩
        replace HX1 := Lib.hid (HX1.out.bel hb5)
        replace HBW1 := Lib.hid (bel_trans HBW1.out hb5)
        replace HXQ := Lib.hid (HXQ.out.bel hb5)
        replace HPQ := Lib.hid (HPQ.out.ext hb5)
        clear p0 p1 p2 p3 p4 p5
        obtain ⟨p0, p1, p2, p3, p4, p5⟩ := pcells HX1.out
        go_wp2_with fail
        go_fit (CI.out _ HBW1.out); rintro e w6 ⟨rfl, hb6⟩
        replace HX1 := Lib.hid (HX1.out.bel hb6)
        replace HBW1 := Lib.hid (bel_trans HBW1.out hb6)
        replace HXQ := Lib.hid (HXQ.out.bel hb6)
        replace HPQ := Lib.hid (HPQ.out.ext hb6)
        clear p0 p1 p2 p3 p4 p5
        have hvv : (v == v) = true := by cases v <;> rfl
        go_wp2_with fail
        go_fit (CA.out _); rintro e wz ⟨rfl, hbz⟩
        replace HBW1 := Lib.hid (bel_trans HBW1.out hbz)
        go_wp2_with fail
        go_ret
        exact ⟨rfl, HBW1.out⟩
      · obtain ⟨s1, s2, s3, s4⟩ := few_sizes hp hfew hpi
        have hfl := (few_head hfew).1
        obtain ⟨q, hqe⟩ : ∃ q, q = extP p 13 [twoR p.n] := ⟨_, rfl⟩
        have hqn : q.n = p.n + 13 := by rw [hqe]; rfl
        have hqr : q.rules = p.rules ++ [twoR p.n] := by rw [hqe]; show p.rules ++ [normR (twoR p.n)] = _; rw [two_norm hn0]
        have hqi : ProgIs q := by
          rw [hqe]
          refine extP_is hpi (by show p.n + 13 ≤ 4000; omega) (by show p.rules.length + 1 ≤ 40000; omega) (fun r hr => ?_)
          simp at hr; subst hr
          rw [two_norm hn0]; exact two_is hn0 (by omega)
        have hqv : validE q = 0 := ex_validE hqi
        have hqd : disB q = true := by
          unfold disB; rw [hqr, List.any_append]
          have e : [twoR p.n].any (fun r => !r.choice && decide (1 < r.head.length)) = true := rfl
          rw [e]; simp
        have hnw : incB (p.n + 13) (newA p.n 13) = true := newA_inc hn0 13
        have hck : checkE q (newA p.n 13) = 0 := check_of hqv (by rw [hqn]; exact hnw)
        have hnl : (newA p.n 13).length = 13 := by unfold newA; simp
        have hmn : minE (p.n + 13) q.rules (newA p.n 13) = 5 := by
          unfold minE
          rw [if_neg, if_pos (by rw [hnl]; decide)]
          rintro (e | e | e | e)
          · omega
          · omega
          · obtain ⟨r, hr, hb⟩ := List.any_eq_true.1 e
            have h1 := ex_ruleE (hqi.rules r hr)
            unfold badRule at hb
            rw [← hqn, h1] at hb
            cases hb
          · rw [hnw] at e; cases e
        have cE : ∀ W B, Below w.heap.size w W → SlIs ruleR W B 1 1 [twoR p.n] → Calls Tryz.prog 18 #[.agg #[.int .i64 p.n, .slice nA nl nc, .slice sA sl sc, .slice rA rl rc, .slice mA ml mc], .int .i64 13, .slice B 1 1] W fun e w' => ∃ (nA' : Option Addr) (nl' nc' : Nat) (sA' : Option Addr) (sl' sc' : Nat) (rA' : Option Addr) (rl' rc' : Nat) (mA' : Option Addr) (ml' mc' : Nat),
            e = .returned (.tuple #[.agg #[.int .i64 (p.n + 13), .slice nA' nl' nc', .slice sA' sl' sc', .slice rA' rl' rc', .slice mA' ml' mc'], .int .i64 0]) ∧ ProgIn w' q nA' nl' nc' sA' sl' sc' rA' rl' rc' mA' ml' mc' ∧ Below W.heap.size W w' := fun W B hb hsl => by
          have h := extend_any p nA nl nc sA sl sc rA rl rc mA ml mc 13 B 1 1 [twoR p.n] W (hp.ext hb) hv (by show p.n + 13 ≤ 4000; omega) s1 s3 s4 hsl (by omega) (fun r hr => by
            simp at hr; subst hr
            exact two_pre hn0 (by omega))
          rw [← hqe] at h
          exact h
        have cQ : ∀ (nA' : Option Addr) (nl' nc' : Nat) (sA' : Option Addr) (sl' sc' : Nat) (rA' : Option Addr) (rl' rc' : Nat) (mA' : Option Addr) (ml' mc' : Nat) (A : Option Addr) (c : Nat) W, ProgIn W q nA' nl' nc' sA' sl' sc' rA' rl' rc' mA' ml' mc' → SlIs intR W A 13 c (newA p.n 13) →
            Calls Tryz.prog 28 #[.agg #[.int .i64 (p.n + 13), .slice nA' nl' nc', .slice sA' sl' sc', .slice rA' rl' rc', .slice mA' ml' mc'], .slice A 13 c] W (fun e w' => e = .returned (.tuple #[.bool false, .int .i64 5]) ∧ Below W.heap.size W w') ∧
            Calls Tryz.prog 30 #[.int .i64 (p.n + 13), .slice rA' rl' rc', .slice A 13 c] W (fun e w' => e = .returned (.tuple #[.bool false, .int .i64 5]) ∧ Below W.heap.size W w') := fun nA' nl' nc' sA' sl' sc' rA' rl' rc' mA' ml' mc' A c W hpq hsl => by
          have h1 := stableIs_many q nA' nl' nc' sA' sl' sc' rA' rl' rc' mA' ml' mc' A 13 c _ W hpq hsl hck (by omega) hqd
          have h2 := stableMinimal_any (p.n + 13) rA' rl' rc' A 13 c _ _ W hpq.rules hsl
          rw [hqn] at h1
          rw [hmn] at h2
          exact ⟨h1, h2⟩
        have hn64 : I64 (p.n + 1) ∧ I64 (p.n + 2) := by unfold I64; omega
        have HP := Lib.hid hp; clear hp
        have HQ := Lib.hid hq; clear hq
        have HV := Lib.hid hv; clear hv
        have HPI := Lib.hid hpi; clear hpi
        have HFEW := Lib.hid hfew; clear hfew
        have HQE := Lib.hid hqe; clear hqe
        have HQN := Lib.hid hqn; clear hqn
        have HQR := Lib.hid hqr; clear hqr
        have HQI := Lib.hid hqi; clear hqi
        have HQV := Lib.hid hqv; clear hqv
        have HQD := Lib.hid hqd; clear hqd
        have HCK := Lib.hid hck; clear hck
        have HNL := Lib.hid hnl; clear hnl
        have HMN := Lib.hid hmn; clear hmn
        have CE := Lib.hid cE; clear cE
        have CQ := Lib.hid cQ; clear cQ
        have HNW := Lib.hid hnw; clear hnw
        have S3 := Lib.hid s3; clear s3
        have S4 := Lib.hid s4; clear s4
        have HN64 := Lib.hid hn64; clear hn64
        go_wp2_with fail
        have HBA := Lib.hid (show Below w1.heap.size w1 ((w1.alloc (.cells #[.int .i64 (p.n + 1), .int .i64 (p.n + 2)] 3)).alloc (.cells #[.bool false, .slice (some ⟨w1.heap.size, 0, none⟩) 2 2, .bool false, .int .i64 0, .slice none 0 0, .slice none 0 0] 37)) from bel_trans (bel_alloc _ _) (bel_alloc _ _))
        have HSL := Lib.hid (show SlIs ruleR ((w1.alloc (.cells #[.int .i64 (p.n + 1), .int .i64 (p.n + 2)] 3)).alloc (.cells #[.bool false, .slice (some ⟨w1.heap.size, 0, none⟩) 2 2, .bool false, .int .i64 0, .slice none 0 0, .slice none 0 0] 37)) (some ⟨w1.heap.size + 1, 0, none⟩) 1 1 [twoR p.n] from sl_rulesAt (cs := [.bool false, .slice (some ⟨w1.heap.size, 0, none⟩) 2 2, .bool false, .int .i64 0, .slice none 0 0, .slice none 0 0]) (blk_new (by simp) _ _)
          ⟨rfl, ints_of (sl_ints [p.n + 1, p.n + 2] ((Blk.new w1 3 #[.int .i64 (p.n + 1), .int .i64 (p.n + 2)]).alloc _) rfl (by omega) (fun x hx => by simp at hx; rcases hx with rfl | rfl; exact HN64.out.1; exact HN64.out.2)), rfl, rfl, (show I64 0 from by unfold I64; omega), ints_nil _, ints_nil _, trivial⟩ rfl (by omega))
        have HBW1 := Lib.hid (bel_trans HBW.out HBA.out)
        have HX1 := Lib.hid (HX.out.bel HBA.out)
        go_fit (CE.out _ _ HBW1.out HSL.out); rintro e w2 ⟨nA', nl', nc', sA', sl', sc', rA', rl', rc', mA', ml', mc', rfl, hpq, hb2⟩
        have HPQ := Lib.hid hpq
        clear hpq
        replace HX1 := Lib.hid (HX1.out.bel hb2)
        replace HBW1 := Lib.hid (bel_trans HBW1.out hb2)
        clear p0 p1 p2 p3 p4 p5
        obtain ⟨p0, p1, p2, p3, p4, p5⟩ := pcells HX1.out
        go_wp2_with fail
        clear p0 p1 p2 p3 p4 p5
        have hbq := bel_alloc w2 (.cells #[.int .i64 (p.n + 13), .slice nA' nl' nc', .slice sA' sl' sc', .slice rA' rl' rc', .slice mA' ml' mc'] 27)
        have HXQ := Lib.hid (Blk.new w2 27 #[.int .i64 (p.n + 13), .slice nA' nl' nc', .slice sA' sl' sc', .slice rA' rl' rc', .slice mA' ml' mc'])
        have HB30 := Lib.hid hbq
        generalize w2.alloc (.cells #[.int .i64 (p.n + 13), .slice nA' nl' nc', .slice sA' sl' sc', .slice rA' rl' rc', .slice mA' ml' mc'] 27) = W3 at *
        clear hbq
        replace HX1 := Lib.hid (HX1.out.bel HB30.out)
        replace HBW1 := Lib.hid (bel_trans HBW1.out HB30.out)
        replace HPQ := Lib.hid (HPQ.out.ext HB30.out)
        have HB3 := Lib.hid HBW1.out
        go_loopw [36, 37] (fun v t wr => ∃ j : Nat, j ≤ 13 ∧ t = .int .i64 (p.n + 1 + (j : Int)) ∧ OwnI wr W3.heap.size v j (newA p.n j) ∧ Kept [] W3 wr) (fun _ t _ => (p.n + 14 - intOf t).toNat)
        case atStart => exact ⟨0, by omega, by go_num, OwnI.nil _ _, Kept.refl _ _⟩
        case round =>
          obtain ⟨j, hj, rfl, ho, hkp⟩ := hrel
          have hb3 := hkp.bel0
          have hxq := HXQ.out.bel hb3
          obtain ⟨p0, p1, p2, p3, p4, p5⟩ := pcells hxq
          by_cases hlt : j < 13
          · have hle : p.n + 1 + (j : Int) ≤ p.n + 13 := by omega
            have hst : newA p.n (j + 1) = newA p.n j ++ [p.n + 1 + (j : Int)] := by unfold newA; rw [List.range_succ, List.map_append]; rfl
            obtain ⟨v1, w4, hrun, own1, hg1, hat1⟩ := app1 ho (p.n + 1 + (j : Int)) (by omega) hb3.size 23
            have hk2 : Kept [] W3 w4 := hkp.grown hg1 (fun q hq => .inr (ho.2.lt q hq).1)
            have HST := Lib.hid hst; clear hst
            have HRUN := Lib.hid hrun; clear hrun
            have OWN1 := Lib.hid own1; clear own1
            have HG1 := Lib.hid hg1; clear hg1
            have HAT1 := Lib.hid hat1; clear hat1
            have HK2 := Lib.hid hk2; clear hk2
            have HO := Lib.hid ho; clear ho
            have HKP := Lib.hid hkp; clear hkp
            have HB3 := Lib.hid hb3; clear hb3
            have HXQ := Lib.hid hxq; clear hxq
            go_wp2_with (at_builtin; refine wpList_append_run rfl _ _ _ rfl _ _ rfl rfl _ _ HRUN.out ?_)
            go_roundw
            case rel => exact ⟨j + 1, by omega, by go_num, by rw [HST.out]; exact OWN1.out, HK2.out⟩
            case measure => simp [intOf]; omega
          · have hj13 : j = 13 := by omega
            subst hj13
            obtain ⟨A, c, rfl, hsl⟩ := ho.sl (by omega) (fun x hx => by have := inc_mem HNW.out x hx; unfold I64; omega)
            have hpq := HPQ.out.ext hb3
            have hbwr := bel_trans HBW1.out hb3
            have hx3 := HX1.out.bel hb3
            have hcc := hsl.cap
            have hcm := hsl.max
            clear HXQ HX1
            have HXP := Lib.hid hx3
            clear hx3
            have HXQ := Lib.hid hxq
            clear hxq
            have HBWZ := Lib.hid hbwr
            clear hbwr
            have HPR := Lib.hid hpq
            clear hpq
            have HO := Lib.hid ho; clear ho
            have HKP := Lib.hid hkp; clear hkp
            have HB3 := Lib.hid hb3; clear hb3
            have HSL := Lib.hid hsl; clear hsl
            go_wp2_with fail
            go_fit ((CQ.out _ _ _ _ _ _ _ _ _ _ _ _ _ _ _ HPR.out HSL.out).1); rintro e w6 ⟨rfl, hb6⟩
            replace HXP := Lib.hid (HXP.out.bel hb6)
            replace HXQ := Lib.hid (HXQ.out.bel hb6)
            replace HBWZ := Lib.hid (bel_trans HBWZ.out hb6)
            replace HPR := Lib.hid (HPR.out.ext hb6)
            replace HSL := Lib.hid (HSL.out.ext hb6)
            clear p0 p1 p2 p3 p4 p5
            obtain ⟨p0, p1, p2, p3, p4, p5⟩ := pcells HXQ.out
            go_wp2_with fail
            go_fit ((CQ.out _ _ _ _ _ _ _ _ _ _ _ _ _ _ _ HPR.out HSL.out).2); rintro e w7 ⟨rfl, hb7⟩
            replace HXP := Lib.hid (HXP.out.bel hb7)
            replace HXQ := Lib.hid (HXQ.out.bel hb7)
            replace HBWZ := Lib.hid (bel_trans HBWZ.out hb7)
            clear p0 p1 p2 p3 p4 p5
            go_wp2_with fail
            go_fit (CA.out _); rintro e wz ⟨rfl, hbz⟩
            replace HBWZ := Lib.hid (bel_trans HBWZ.out hbz)
            go_wp2_with fail
            go_ret
            exact ⟨rfl, HBWZ.out⟩
theorem stableWrong_any (p : GProg) (nA : Option Addr) (nl nc : Nat) (sA : Option Addr) (sl sc : Nat) (rA : Option Addr) (rl rc : Nat) (mA : Option Addr) (ml mc : Nat) (a : Int) (w : World) (hp : ProgIn w p nA nl nc sA sl sc rA rl rc mA ml mc) (h0 : 0 ≤ a) (h1 : a ≤ 255) :
    Calls Tryz.prog 6 #[.agg #[.int .i64 p.n, .slice nA nl nc, .slice sA sl sc, .slice rA rl rc, .slice mA ml mc], .int .u8 a] w fun e w' => e = .returned (.bool true) ∧ Below w.heap.size w w' := by
  obtain ⟨n, rfl⟩ := Int.eq_ofNat_of_zero_le h0
  exact stableWrong_law p nA nl nc sA sl sc rA rl rc mA ml mc n (by omega) w hp
end Go.Proofs.YtdmcclfagjgcgaaGreat

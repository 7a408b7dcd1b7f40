/- The law GraphWrong: it answers true and changes nothing that was there. -/
import Derived.Test.YtbfbkpoakmnlpaaGV
import Derived.Test.YtbfbkpoakmnlpaaRat
namespace Go.Proofs.Ytbfbkpoakmnlpaa
open Go.RowKit

theorem gw_min {W : World} {g : Nat} {t : TypeId} {q1 q2 : Value} (h : Blk W g t #[.int .i64 0, q1, q2]) (h1 : Ints W q1 [0]) (h2 : Ints W q2 [1]) : SlIs minR W (some ⟨g, 0, none⟩) 1 1 [badM] :=
  sl_of_cells h rfl (by omega) fun i x hx => by
    match i, hx with
    | 0, hx =>
      cases hx
      refine ⟨_, ⟨q1, q2, rfl, by simp [I64, badM], h1, h2⟩, fun j u hu => ?_⟩
      match j, hu with
      | 0, hu => exact hu
      | 1, hu => exact hu
      | 2, hu => exact hu
      | j + 3, hu => simp at hu
    | i + 1, hx => simp at hx
set_option maxRecDepth 100000 in
set_option maxHeartbeats 4000000 in
theorem graphWrong_law (p : GProg) (nA : Option Addr) (nl nc : Nat) (sA : Option Addr) (sl sc : Nat) (rA : Option Addr) (rl rc : Nat) (mA : Option Addr) (ml mc : Nat) (a : Nat) (ha : a < 256) (w : World) (hp : ProgIn w p nA nl nc sA sl sc rA rl rc mA ml mc) :
    Calls Try.prog 8 #[.agg #[.int .i64 p.n, .slice nA nl nc, .slice sA sl sc, .slice rA rl rc, .slice mA ml mc], .int .u8 (a : Int)] w fun e w' => e = .returned (.bool true) ∧ Below w.heap.size w w' := by
  have cSm := fun W (hb : Below w.heap.size w W) => fine_any p nA nl nc sA sl sc rA rl rc mA ml mc W (hp.ext hb)
  have cA := awake21_any
  have hx0 := Blk.new w 27 #[.int .i64 p.n, .slice nA nl nc, .slice sA sl sc, .slice rA rl rc, .slice mA ml mc]
  cases hq : fineB p with
  | false =>
    rw [hq] at cSm
    have HP := Lib.hid hp; clear hp
    have CSM := Lib.hid cSm; clear cSm
    have CA := Lib.hid cA; clear cA
    have HX0 := Lib.hid hx0; clear hx0
    have HQ := Lib.hid hq; clear hq
    go_enter Try.func8, Try.ntmps8
    go_wp2_with fail
    go_fit (CSM.out _ (bel_alloc _ _)); rintro e w1 ⟨rfl, hb1⟩
    have HBW := Lib.hid (bel_trans (bel_alloc _ _) hb1)
    have HX := Lib.hid (HX0.out.bel hb1)
    clear hb1
    go_wp2_with fail
    go_fit (CA.out _); rintro e wz ⟨rfl, hbz⟩
    have HB3 := Lib.hid (bel_trans HBW.out hbz)
    clear hbz
    go_wp2_with fail
    go_ret
    exact ⟨rfl, HB3.out⟩
  | true =>
    rw [hq] at cSm
    obtain ⟨hfew, hv⟩ := fine_is hq
    have hpi := validE_is hv
    have hn0 : 0 ≤ p.n := (namedB_n hpi.named).1
    have hn12 := fine_n hfew
    have hrl := fine_rules hfew
    have CSM := Lib.hid cSm; clear cSm
    have CA := Lib.hid cA; clear cA
    have HX0 := Lib.hid hx0; clear hx0
    have HP := Lib.hid hp; clear hp
    have HQ := Lib.hid hq; clear hq
    have HV := Lib.hid hv; clear hv
    have HPI := Lib.hid hpi; clear hpi
    have HFEW := Lib.hid hfew; clear hfew
    have HRL := Lib.hid hrl; clear hrl
    go_enter Try.func8, Try.ntmps8
    go_wp2_with fail
    go_fit (CSM.out _ (bel_alloc _ _)); rintro e w1 ⟨rfl, hb1⟩
    have HBW := Lib.hid (bel_trans (bel_alloc _ _) hb1)
    have HX := Lib.hid (HX0.out.bel hb1)
    clear hb1
    obtain ⟨c, hc4, hca⟩ : ∃ c : Nat, c < 3 ∧ a % 3 = c := ⟨a % 3, Nat.mod_lt _ (by omega), rfl⟩
    rcases (by omega : c = 0 ∨ c = 1 ∨ c = 2) with rfl | rfl | rfl
    · obtain ⟨p0, p1, p2, p3, p4, p5⟩ := pcells HX.out
      have z0 := HX.out.frozen 0
      go_wp2_with fail
      have hbm : Below w.heap.size w (w1.setCell ⟨w.heap.size, 0, none⟩ (.int .i64 (p.n + 1))) := Kept.below HBW.out ((Kept.refl [w.heap.size] w1).set (.inl (by simp)) _) HBW.out.size (fun q hq => by simp at hq; omega)
      have hxm : Blk (w1.setCell ⟨w.heap.size, 0, none⟩ (.int .i64 (p.n + 1))) w.heap.size 27 #[.int .i64 (p.n + 1), .slice nA nl nc, .slice sA sl sc, .slice rA rl rc, .slice mA ml mc] := HX.out.set_ 0 _
      have hpm := HP.out.ext hbm
      have hqm := wrongs { p with n := p.n + 1 } nA nl nc sA sl sc rA rl rc mA ml mc _ ⟨(by unfold I64; show _ ≤ p.n + 1 ∧ p.n + 1 ≤ _; omega), hpm.names, hpm.shown, hpm.rules, hpm.min⟩ (gw_case0 HPI.out)
      have hv0 := gw_case0 HPI.out
      generalize validE { p with n := p.n + 1 } = v at *
      generalize w1.setCell ⟨w.heap.size, 0, none⟩ (.int .i64 (p.n + 1)) = wm at *
      clear z0
      have hvn : (v != 0) = true := by simp [hv0]
      have HBM := Lib.hid hbm; clear hbm
      have HXM := Lib.hid hxm; clear hxm
      have HPM := Lib.hid hpm; clear hpm
      have HQM := Lib.hid hqm; clear hqm
      have HVN := Lib.hid hvn; clear hvn
      go_fit (HQM.out.va _ (Below.refl _ _)); rintro e x1 ⟨rfl, hb⟩
      have HB := Lib.hid hb
      have HXN := Lib.hid (HXM.out.bel hb)
      clear hb
      clear p0 p1 p2 p3 p4 p5
      obtain ⟨p0, p1, p2, p3, p4, p5⟩ := pcells HXN.out
      go_wp2_with fail
      go_fit (HQM.out.ed _ HB.out); rintro e x2 ⟨rfl, hb⟩
      have HB' := Lib.hid (bel_trans HB.out hb)
      have HXN' := Lib.hid (HXN.out.bel hb)
      clear hb HB HXN
      have HB := HB'
      have HXN := HXN'
      clear HB' HXN'
      clear p0 p1 p2 p3 p4 p5
      obtain ⟨p0, p1, p2, p3, p4, p5⟩ := pcells HXN.out
      go_wp2_with fail
      go_fit (HQM.out.co _ HB.out); rintro e x3 ⟨rfl, hb⟩
      have HB' := Lib.hid (bel_trans HB.out hb)
      have HXN' := Lib.hid (HXN.out.bel hb)
      clear hb HB HXN
      have HB := HB'
      have HXN := HXN'
      clear HB' HXN'
      clear p0 p1 p2 p3 p4 p5
      obtain ⟨p0, p1, p2, p3, p4, p5⟩ := pcells HXN.out
      go_wp2_with fail
      go_fit (HQM.out.nu _ HB.out); rintro e x4 ⟨rfl, hb⟩
      have HB' := Lib.hid (bel_trans HB.out hb)
      have HXN' := Lib.hid (HXN.out.bel hb)
      clear hb HB HXN
      have HB := HB'
      have HXN := HXN'
      clear HB' HXN'
      clear p0 p1 p2 p3 p4 p5
      obtain ⟨p0, p1, p2, p3, p4, p5⟩ := pcells HXN.out
      go_wp2_with fail
      go_fit (HQM.out.ti _ HB.out); rintro e x5 ⟨rfl, hb⟩
      have HB' := Lib.hid (bel_trans HB.out hb)
      have HXN' := Lib.hid (HXN.out.bel hb)
      clear hb HB HXN
      have HB := HB'
      have HXN := HXN'
      clear HB' HXN'
      clear p0 p1 p2 p3 p4 p5
      obtain ⟨p0, p1, p2, p3, p4, p5⟩ := pcells HXN.out
      go_wp2_with fail
      go_fit (HQM.out.fr _ HB.out); rintro e x6 ⟨rfl, hb⟩
      have HB' := Lib.hid (bel_trans HB.out hb)
      have HXN' := Lib.hid (HXN.out.bel hb)
      clear hb HB HXN
      have HB := HB'
      have HXN := HXN'
      clear HB' HXN'
      clear p0 p1 p2 p3 p4 p5
      obtain ⟨p0, p1, p2, p3, p4, p5⟩ := pcells HXN.out
      go_wp2_with fail
      go_fit (HQM.out.cy _ HB.out); rintro e x7 ⟨rfl, hb⟩
      have HB2 := Lib.hid (bel_trans HBM.out (bel_trans HB.out hb))
      clear hb
      clear p0 p1 p2 p3 p4 p5
      go_wp2_with fail
      go_fit (CA.out _); rintro e wz ⟨rfl, hb⟩
      have HB3 := Lib.hid (bel_trans HB2.out hb)
      clear hb
      go_wp2_with fail
      go_ret
      exact ⟨by rw [HVN.out]; rfl, HB3.out⟩
    · have h16 : p.rules.length ≤ 1000000 := by have := HRL.out; omega
      have hrl0 := HP.out.rules.len
      obtain ⟨v1, W1, qA, qc, W2, hrun1, hrun2, ho7, hb7⟩ := rules_app (r := badR) HP.out.rules HBW.out (c0 := [.bool true, .slice none 0 0, .bool false, .int .i64 0, .slice none 0 0, .slice none 0 0]) ⟨_, _, _, rfl, ints_nil _, by simp [badR, I64], ints_nil _, ints_nil _⟩ (by omega) 24 24
      have hx7 := HX.out.bel hb7
      have z7 := hx7.frozen 3
      have hbl := HX.out.lt
      clear hrl0
      have HRUN1 := Lib.hid hrun1; clear hrun1
      have HRUN2 := Lib.hid hrun2; clear hrun2
      have HO7 := Lib.hid ho7; clear ho7
      have HB7 := Lib.hid hb7; clear hb7
      have HX7 := Lib.hid hx7; clear hx7
      have HBL := Lib.hid hbl; clear hbl
      obtain ⟨p0, p1, p2, p3, p4, p5⟩ := pcells HX.out
      obtain ⟨c0, c1, c2, c3, c4, c5⟩ := pcells HX7.out
      go_wp2_with (first | (at_builtin; refine wpList_append_run rfl _ _ _ rfl _ _ rfl rfl _ _ HRUN1.out ?_; clear HRUN1) | (at_builtin; refine wpList_append_run rfl _ _ _ rfl _ _ rfl rfl _ _ HRUN2.out ?_; clear HRUN2))
      have ho8 := HO7.out.set (p := ⟨w.heap.size, 3, none⟩) (Nat.le_refl _) HBL.out (.slice qA (p.rules.length + 1) qc)
      have hbm : Below w.heap.size w (W2.setCell ⟨w.heap.size, 3, none⟩ (.slice qA (p.rules.length + 1) qc)) := ho8.below
      have hxm : Blk (W2.setCell ⟨w.heap.size, 3, none⟩ (.slice qA (p.rules.length + 1) qc)) w.heap.size 27 #[.int .i64 p.n, .slice nA nl nc, .slice sA sl sc, .slice qA (p.rules.length + 1) qc, .slice mA ml mc] := HX7.out.set_ 3 _
      obtain ⟨A, c, e, hsl⟩ := ho8.sl (by rw [List.length_append]; simp; have := HRL.out; omega)
      rw [List.length_append] at e hsl
      injection e with e1 _ e2
      subst e1 e2
      have hpm := HP.out.ext hbm
      have hqm := wrongs { p with rules := p.rules ++ [badR] } nA nl nc sA sl sc qA (p.rules.length + 1) qc mA ml mc _ ⟨hpm.n, hpm.names, hpm.shown, hsl, hpm.min⟩ (gw_case1 HPI.out)
      have hv0 := gw_case1 HPI.out
      generalize validE { p with rules := p.rules ++ [badR] } = v at *
      generalize W2.setCell ⟨w.heap.size, 3, none⟩ (.slice qA (p.rules.length + 1) qc) = wm at *
      clear z7 c0 c1 c2 c3 c4 c5
      have hvn : (v != 0) = true := by simp [hv0]
      have HBM := Lib.hid hbm; clear hbm
      have HXM := Lib.hid hxm; clear hxm
      have HPM := Lib.hid hpm; clear hpm
      have HQM := Lib.hid hqm; clear hqm
      have HVN := Lib.hid hvn; clear hvn
      have HSL := Lib.hid hsl; clear hsl
      have HO8 := Lib.hid ho8; clear ho8
      go_fit (HQM.out.va _ (Below.refl _ _)); rintro e x1 ⟨rfl, hb⟩
      have HB := Lib.hid hb
      have HXN := Lib.hid (HXM.out.bel hb)
      clear hb
      clear p0 p1 p2 p3 p4 p5
      obtain ⟨p0, p1, p2, p3, p4, p5⟩ := pcells HXN.out
      go_wp2_with fail
      go_fit (HQM.out.ed _ HB.out); rintro e x2 ⟨rfl, hb⟩
      have HB' := Lib.hid (bel_trans HB.out hb)
      have HXN' := Lib.hid (HXN.out.bel hb)
      clear hb HB HXN
      have HB := HB'
      have HXN := HXN'
      clear HB' HXN'
      clear p0 p1 p2 p3 p4 p5
      obtain ⟨p0, p1, p2, p3, p4, p5⟩ := pcells HXN.out
      go_wp2_with fail
      go_fit (HQM.out.co _ HB.out); rintro e x3 ⟨rfl, hb⟩
      have HB' := Lib.hid (bel_trans HB.out hb)
      have HXN' := Lib.hid (HXN.out.bel hb)
      clear hb HB HXN
      have HB := HB'
      have HXN := HXN'
      clear HB' HXN'
      clear p0 p1 p2 p3 p4 p5
      obtain ⟨p0, p1, p2, p3, p4, p5⟩ := pcells HXN.out
      go_wp2_with fail
      go_fit (HQM.out.nu _ HB.out); rintro e x4 ⟨rfl, hb⟩
      have HB' := Lib.hid (bel_trans HB.out hb)
      have HXN' := Lib.hid (HXN.out.bel hb)
      clear hb HB HXN
      have HB := HB'
      have HXN := HXN'
      clear HB' HXN'
      clear p0 p1 p2 p3 p4 p5
      obtain ⟨p0, p1, p2, p3, p4, p5⟩ := pcells HXN.out
      go_wp2_with fail
      go_fit (HQM.out.ti _ HB.out); rintro e x5 ⟨rfl, hb⟩
      have HB' := Lib.hid (bel_trans HB.out hb)
      have HXN' := Lib.hid (HXN.out.bel hb)
      clear hb HB HXN
      have HB := HB'
      have HXN := HXN'
      clear HB' HXN'
      clear p0 p1 p2 p3 p4 p5
      obtain ⟨p0, p1, p2, p3, p4, p5⟩ := pcells HXN.out
      go_wp2_with fail
      go_fit (HQM.out.fr _ HB.out); rintro e x6 ⟨rfl, hb⟩
      have HB' := Lib.hid (bel_trans HB.out hb)
      have HXN' := Lib.hid (HXN.out.bel hb)
      clear hb HB HXN
      have HB := HB'
      have HXN := HXN'
      clear HB' HXN'
      clear p0 p1 p2 p3 p4 p5
      obtain ⟨p0, p1, p2, p3, p4, p5⟩ := pcells HXN.out
      go_wp2_with fail
      go_fit (HQM.out.cy _ HB.out); rintro e x7 ⟨rfl, hb⟩
      have HB2 := Lib.hid (bel_trans HBM.out (bel_trans HB.out hb))
      clear hb
      clear p0 p1 p2 p3 p4 p5
      go_wp2_with fail
      go_fit (CA.out _); rintro e wz ⟨rfl, hb⟩
      have HB3 := Lib.hid (bel_trans HB2.out hb)
      clear hb
      go_wp2_with fail
      go_ret
      exact ⟨by rw [HVN.out]; rfl, HB3.out⟩
    · obtain ⟨p0, p1, p2, p3, p4, p5⟩ := pcells HX.out
      have hx3 := ((HX.out.alloc (.cells #[.int .i64 0] 3)).alloc (.cells #[.int .i64 1] 3)).alloc (.cells #[.int .i64 0, .slice (some ⟨w1.heap.size, 0, none⟩) 1 1, .slice (some ⟨w1.heap.size + 1, 0, none⟩) 1 1] 58)
      have hbl := HX.out.lt
      have z4 := hx3.frozen 4
      obtain ⟨c0, c1, c2, c3, c4, c5⟩ := pcells hx3
      have bA : Blk (((w1.alloc (.cells #[.int .i64 0] 3)).alloc (.cells #[.int .i64 1] 3)).alloc (.cells #[.int .i64 0, .slice (some ⟨w1.heap.size, 0, none⟩) 1 1, .slice (some ⟨w1.heap.size + 1, 0, none⟩) 1 1] 58)) w1.heap.size 3 #[.int .i64 0] := ((blk_new rfl _ _).alloc _).alloc _
      have bB : Blk (((w1.alloc (.cells #[.int .i64 0] 3)).alloc (.cells #[.int .i64 1] 3)).alloc (.cells #[.int .i64 0, .slice (some ⟨w1.heap.size, 0, none⟩) 1 1, .slice (some ⟨w1.heap.size + 1, 0, none⟩) 1 1] 58)) (w1.heap.size + 1) 3 #[.int .i64 1] := (blk_new (by simp) _ _).alloc _
      have bC : Blk (((w1.alloc (.cells #[.int .i64 0] 3)).alloc (.cells #[.int .i64 1] 3)).alloc (.cells #[.int .i64 0, .slice (some ⟨w1.heap.size, 0, none⟩) 1 1, .slice (some ⟨w1.heap.size + 1, 0, none⟩) 1 1] 58)) (w1.heap.size + 1 + 1) 58 #[.int .i64 0, .slice (some ⟨w1.heap.size, 0, none⟩) 1 1, .slice (some ⟨w1.heap.size + 1, 0, none⟩) 1 1] := blk_new (by simp) _ _
      have hbB := bel_trans HBW.out (bel_trans (bel_trans (bel_alloc w1 (.cells #[.int .i64 0] 3)) (bel_alloc _ (.cells #[.int .i64 1] 3))) (bel_alloc _ (.cells #[.int .i64 0, .slice (some ⟨w1.heap.size, 0, none⟩) 1 1, .slice (some ⟨w1.heap.size + 1, 0, none⟩) 1 1] 58)))
      have HX3 := Lib.hid hx3; clear hx3
      have BA := Lib.hid bA; clear bA
      have BB := Lib.hid bB; clear bB
      have BC := Lib.hid bC; clear bC
      have HBB := Lib.hid hbB; clear hbB
      go_wp2_with fail
      have hsl := gw_min (BC.out.far (p := ⟨w.heap.size, 4, none⟩) (by simp; omega) (.slice (some ⟨w1.heap.size + 1 + 1, 0, none⟩) 1 1)) (i1 _ _ 0 (BA.out.far (p := ⟨w.heap.size, 4, none⟩) (by simp; omega) (.slice (some ⟨w1.heap.size + 1 + 1, 0, none⟩) 1 1)) (by simp [I64])) (i1 _ _ 1 (BB.out.far (p := ⟨w.heap.size, 4, none⟩) (by simp; omega) (.slice (some ⟨w1.heap.size + 1 + 1, 0, none⟩) 1 1)) (by simp [I64]))
      have hbm : Below w.heap.size w ((((w1.alloc (.cells #[.int .i64 0] 3)).alloc (.cells #[.int .i64 1] 3)).alloc (.cells #[.int .i64 0, .slice (some ⟨w1.heap.size, 0, none⟩) 1 1, .slice (some ⟨w1.heap.size + 1, 0, none⟩) 1 1] 58)).setCell ⟨w.heap.size, 4, none⟩ (.slice (some ⟨w1.heap.size + 1 + 1, 0, none⟩) 1 1)) := Kept.below HBB.out ((Kept.refl [w.heap.size] _).set (.inl (by simp)) _) HBB.out.size (fun q hq => by simp at hq; omega)
      have hxm : Blk ((((w1.alloc (.cells #[.int .i64 0] 3)).alloc (.cells #[.int .i64 1] 3)).alloc (.cells #[.int .i64 0, .slice (some ⟨w1.heap.size, 0, none⟩) 1 1, .slice (some ⟨w1.heap.size + 1, 0, none⟩) 1 1] 58)).setCell ⟨w.heap.size, 4, none⟩ (.slice (some ⟨w1.heap.size + 1 + 1, 0, none⟩) 1 1)) w.heap.size 27 #[.int .i64 p.n, .slice nA nl nc, .slice sA sl sc, .slice rA rl rc, (.slice (some ⟨w1.heap.size + 1 + 1, 0, none⟩) 1 1)] := HX3.out.set_ 4 _
      have hpm := HP.out.ext hbm
      have hqm := wrongs { p with min := [badM] } nA nl nc sA sl sc rA rl rc _ 1 1 _ ⟨hpm.n, hpm.names, hpm.shown, hpm.rules, hsl⟩ gw_case2
      have hv0 : validE { p with min := [badM] } ≠ 0 := gw_case2
      generalize validE { p with min := [badM] } = v at *
      clear z4 c0 c1 c2 c3 c4 c5 BA BB BC HX3 HBB
      generalize (((w1.alloc (.cells #[.int .i64 0] 3)).alloc (.cells #[.int .i64 1] 3)).alloc (.cells #[.int .i64 0, .slice (some ⟨w1.heap.size, 0, none⟩) 1 1, .slice (some ⟨w1.heap.size + 1, 0, none⟩) 1 1] 58)).setCell ⟨w.heap.size, 4, none⟩ (.slice (some ⟨w1.heap.size + 1 + 1, 0, none⟩) 1 1) = wm at *
      have hvn : (v != 0) = true := by simp [hv0]
      have HBM := Lib.hid hbm; clear hbm
      have HXM := Lib.hid hxm; clear hxm
      have HPM := Lib.hid hpm; clear hpm
      have HQM := Lib.hid hqm; clear hqm
      have HVN := Lib.hid hvn; clear hvn
      have HSL := Lib.hid hsl; clear hsl
      go_fit (HQM.out.va _ (Below.refl _ _)); rintro e x1 ⟨rfl, hb⟩
      have HB := Lib.hid hb
      have HXN := Lib.hid (HXM.out.bel hb)
      clear hb
      clear p0 p1 p2 p3 p4 p5
      obtain ⟨p0, p1, p2, p3, p4, p5⟩ := pcells HXN.out
      go_wp2_with fail
      go_fit (HQM.out.ed _ HB.out); rintro e x2 ⟨rfl, hb⟩
      have HB' := Lib.hid (bel_trans HB.out hb)
      have HXN' := Lib.hid (HXN.out.bel hb)
      clear hb HB HXN
      have HB := HB'
      have HXN := HXN'
      clear HB' HXN'
      clear p0 p1 p2 p3 p4 p5
      obtain ⟨p0, p1, p2, p3, p4, p5⟩ := pcells HXN.out
      go_wp2_with fail
      go_fit (HQM.out.co _ HB.out); rintro e x3 ⟨rfl, hb⟩
      have HB' := Lib.hid (bel_trans HB.out hb)
      have HXN' := Lib.hid (HXN.out.bel hb)
      clear hb HB HXN
      have HB := HB'
      have HXN := HXN'
      clear HB' HXN'
      clear p0 p1 p2 p3 p4 p5
      obtain ⟨p0, p1, p2, p3, p4, p5⟩ := pcells HXN.out
      go_wp2_with fail
      go_fit (HQM.out.nu _ HB.out); rintro e x4 ⟨rfl, hb⟩
      have HB' := Lib.hid (bel_trans HB.out hb)
      have HXN' := Lib.hid (HXN.out.bel hb)
      clear hb HB HXN
      have HB := HB'
      have HXN := HXN'
      clear HB' HXN'
      clear p0 p1 p2 p3 p4 p5
      obtain ⟨p0, p1, p2, p3, p4, p5⟩ := pcells HXN.out
      go_wp2_with fail
      go_fit (HQM.out.ti _ HB.out); rintro e x5 ⟨rfl, hb⟩
      have HB' := Lib.hid (bel_trans HB.out hb)
      have HXN' := Lib.hid (HXN.out.bel hb)
      clear hb HB HXN
      have HB := HB'
      have HXN := HXN'
      clear HB' HXN'
      clear p0 p1 p2 p3 p4 p5
      obtain ⟨p0, p1, p2, p3, p4, p5⟩ := pcells HXN.out
      go_wp2_with fail
      go_fit (HQM.out.fr _ HB.out); rintro e x6 ⟨rfl, hb⟩
      have HB' := Lib.hid (bel_trans HB.out hb)
      have HXN' := Lib.hid (HXN.out.bel hb)
      clear hb HB HXN
      have HB := HB'
      have HXN := HXN'
      clear HB' HXN'
      clear p0 p1 p2 p3 p4 p5
      obtain ⟨p0, p1, p2, p3, p4, p5⟩ := pcells HXN.out
      go_wp2_with fail
      go_fit (HQM.out.cy _ HB.out); rintro e x7 ⟨rfl, hb⟩
      have HB2 := Lib.hid (bel_trans HBM.out (bel_trans HB.out hb))
      clear hb
      clear p0 p1 p2 p3 p4 p5
      go_wp2_with fail
      go_fit (CA.out _); rintro e wz ⟨rfl, hb⟩
      have HB3 := Lib.hid (bel_trans HB2.out hb)
      clear hb
      go_wp2_with fail
      go_ret
      exact ⟨by rw [HVN.out]; rfl, HB3.out⟩
theorem graphWrong_any (p : GProg) (nA : Option Addr) (nl nc : Nat) (sA : Option Addr) (sl sc : Nat) (rA : Option Addr) (rl rc : Nat) (mA : Option Addr) (ml mc : Nat) (a : Int) (w : World) (hp : ProgIn w p nA nl nc sA sl sc rA rl rc mA ml mc) (h0 : 0 ≤ a) (h1 : a ≤ 255) :
    Calls Try.prog 8 #[.agg #[.int .i64 p.n, .slice nA nl nc, .slice sA sl sc, .slice rA rl rc, .slice mA ml mc], .int .u8 a] w fun e w' => e = .returned (.bool true) ∧ Below w.heap.size w w' := by
  obtain ⟨k, rfl⟩ : ∃ k : Nat, a = (k : Int) := ⟨a.toNat, by omega⟩
  exact graphWrong_law p nA nl nc sA sl sc rA rl rc mA ml mc k (by omega) w hp
end Go.Proofs.Ytbfbkpoakmnlpaa

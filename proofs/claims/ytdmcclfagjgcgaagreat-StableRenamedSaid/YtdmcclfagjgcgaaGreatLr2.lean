/- The law StableRenamed: it answers true and changes nothing that was there. Printed by mklr.py. -/
import Derived.Test.YtdmcclfagjgcgaaGreatRen
import Derived.Test.YtdmcclfagjgcgaaGreatSrm
import Derived.Test.YtdmcclfagjgcgaaGreatIno
import Derived.Test.YtdmcclfagjgcgaaGreatSl3
namespace Go.Proofs.YtdmcclfagjgcgaaGreat
open Go.RowKit

set_option maxRecDepth 100000 in
set_option maxHeartbeats 8000000 in
theorem stableRenamed_any (p : GProg) (nA : Option Addr) (nl nc : Nat) (sA : Option Addr) (sl sc : Nat) (rA : Option Addr) (rl rc : Nat) (mA : Option Addr) (ml mc : Nat) (tn : Int) (w : World) (hp : ProgIn w p nA nl nc sA sl sc rA rl rc mA ml mc) (ht0 : 0 ≤ tn) (ht1 : tn ≤ 255) :
    Calls Tryz.prog 8 #[.agg #[.int .i64 p.n, .slice nA nl nc, .slice sA sl sc, .slice rA rl rc, .slice mA ml mc], .int .u8 tn] w fun e w' => e = .returned (.bool true) ∧ Below w.heap.size w w' := by
  have cS := fun W (hb : Below w.heap.size w W) => small_any p nA nl nc sA sl sc rA rl rc mA ml mc W (hp.ext hb)
  have cA := awake20_any
  cases hsm : smallB p with
  | false =>
    rw [hsm] at cS
    have HP := Lib.hid hp; clear hp
    have CS := Lib.hid cS; clear cS
    have CA := Lib.hid cA; clear cA
    have HSM := Lib.hid hsm; clear hsm
    go_enter Tryz.func8, Tryz.ntmps8
    go_wp2_with fail
    go_fit (CS.out _ (bel_alloc _ _)); rintro e w1 ⟨rfl, hb⟩
    have HBW := Lib.hid (bel_trans (bel_alloc _ _) hb)
    clear hb
    go_wp2_with fail
    go_fit (CA.out _); rintro e w2 ⟨rfl, hb⟩
    have HBZ := Lib.hid (bel_trans HBW.out hb)
    clear hb
    go_wp2_with fail
    go_ret
    exact ⟨rfl, HBZ.out⟩
  | true =>
    rw [hsm] at cS
    have hn6 := (small_is hsm).2.1
    have hv := (small_is hsm).2.2
    have hn0 := valid_n hv
    have cAll := fun W (hb : Below w.heap.size w W) => all_any p nA nl nc sA sl sc rA rl rc mA ml mc W (hp.ext hb) hv (small_P hsm)
    have hrl := hp.rules.len
    have hr16 : rl ≤ 16 := by have := (few_head (small_is hsm).1).1; omega
    have hrc := hp.rules.cap
    have hrm := hp.rules.max
    by_cases hz : p.n = 0
    · have t2 : (p.n == 0) = true := by simpa using hz
      have HP := Lib.hid hp; clear hp
      have CS := Lib.hid cS; clear cS
      have CA := Lib.hid cA; clear cA
      have HSM := Lib.hid hsm; clear hsm
      have HV := Lib.hid hv; clear hv
      have CALL := Lib.hid cAll; clear cAll
      have HRL := Lib.hid hrl; clear hrl
      have HZ := Lib.hid hz; clear hz
      go_enter Tryz.func8, Tryz.ntmps8
      go_wp2_with fail
      go_fit (CS.out _ (bel_alloc _ _)); rintro e w1 ⟨rfl, hb⟩
      have HX := Lib.hid ((Blk.new w 27 #[.int .i64 p.n, .slice nA nl nc, .slice sA sl sc, .slice rA rl rc, .slice mA ml mc]).bel hb)
      have HBW := Lib.hid (bel_trans (bel_alloc _ _) hb)
      clear hb
      obtain ⟨p0, p1, p2, p3, p4, p5⟩ := pcells HX.out
      go_wp2_with fail
      go_fit (CA.out _); rintro e w2 ⟨rfl, hb⟩
      have HBZ := Lib.hid (bel_trans HBW.out hb)
      clear hb
      go_wp2_with fail
      go_ret
      exact ⟨rfl, HBZ.out⟩
    · have t2 : (p.n == 0) = false := by simpa using hz
      have hnpos : 0 < p.n := by omega
      have HP := Lib.hid hp; clear hp
      have CS := Lib.hid cS; clear cS
      have CA := Lib.hid cA; clear cA
      have HSM := Lib.hid hsm; clear hsm
      have HV := Lib.hid hv; clear hv
      have CALL := Lib.hid cAll; clear cAll
      have HRL := Lib.hid hrl; clear hrl
      have HZ := Lib.hid hz; clear hz
      go_enter Tryz.func8, Tryz.ntmps8
      go_wp2_with fail
      go_fit (CS.out _ (bel_alloc _ _)); rintro e w1 ⟨rfl, hb⟩
      have HX := Lib.hid ((Blk.new w 27 #[.int .i64 p.n, .slice nA nl nc, .slice sA sl sc, .slice rA rl rc, .slice mA ml mc]).bel hb)
      have HBW := Lib.hid (bel_trans (bel_alloc _ _) hb)
      clear hb
      obtain ⟨p0, p1, p2, p3, p4, p5⟩ := pcells HX.out
      go_wp2_with fail
      clear p0 p1 p2 p3 p4 p5
      obtain ⟨wp, rfl⟩ : ∃ wp : World, wp = w1 := ⟨_, rfl⟩
      go_loopw [5, 39] (fun v t wr => ∃ (k : Nat), (k : Int) ≤ p.n ∧ t = .int .i64 (k : Int) ∧ OwnI wr wp.heap.size v k (rotL p.n tn k) ∧ Below wp.heap.size wp wr) (fun _ t _ => p.n.toNat - (intOf t).toNat)
      case atStart => exact ⟨0, by omega, rfl, OwnI.nil _ _, Below.refl _ _⟩
      case round =>
        obtain ⟨k, hk, rfl, ho, hb⟩ := hrel
        have hsz := hb.size
        have hxr := HX.out.bel hb
        obtain ⟨p0, p1, p2, p3, p4, p5⟩ := pcells hxr
        by_cases hlt : (k : Int) < p.n
        · have k0 : (0 : Int) ≤ (k : Int) := by omega
          have e1 : IntKind.i64.wrap ((k : Int) + tn) = (k : Int) + tn := IntWalk.i64_in _ (by omega)
          have m0 : 0 ≤ ((k : Int) + tn) % p.n := Int.emod_nonneg _ (by omega)
          have m1 : ((k : Int) + tn) % p.n < p.n := Int.emod_lt_of_pos _ (by omega)
          obtain ⟨v', w5, hrun, hown5, hg5, hat5⟩ := app1 ho (1 + ((k : Int) + tn) % p.n) (by omega) hsz 23
          have hb5 := bel_grown hb hg5 hsz (fun q hq => (ho.2.lt q hq).1)
          rw [← rotL_succ] at hown5
          have HXR := Lib.hid hxr; clear hxr
          have HO := Lib.hid ho; clear ho
          have HB := Lib.hid hb; clear hb
          have HRUN := Lib.hid hrun; clear hrun
          have HOWN5 := Lib.hid hown5; clear hown5
          have HG5 := Lib.hid hg5; clear hg5
          have HAT5 := Lib.hid hat5; clear hat5
          have HB5 := Lib.hid hb5; clear hb5
          go_wp2_with (at_builtin; refine wpList_append_run rfl _ _ _ rfl _ _ rfl rfl _ _ HRUN.out ?_)
          go_roundw
          case rel => exact ⟨k + 1, by omega, by go_num, HOWN5.out, HB5.out⟩
          case measure => simp [intOf]; omega
        · have hkN : k = p.n.toNat := by omega
          subst hkN
          have hpmI := rotI_perm (n := p.n) (t := tn) (by omega)
          have hpl := hpmI.len
          obtain ⟨qA, qc, rfl, hqs⟩ := ho.sl (by omega) (rot_64 (by omega) (by omega))
          obtain ⟨pm, hpm⟩ : ∃ pm, pm = rotL p.n tn p.n.toNat := ⟨_, rfl⟩
          rw [← hpm] at hqs hpmI hpl
          obtain ⟨ql, hqlE⟩ : ∃ ql, ql = p.n.toNat := ⟨_, rfl⟩
          rw [← hqlE] at hqs ⊢
          have hqlN : (ql : Int) = p.n := by omega
          have hqpl : pm.length = ql := by omega
          have hql12 : ql ≤ 12 := by omega
          have HQLE := Lib.hid hqlE; clear hqlE
          have HQLN := Lib.hid hqlN; clear hqlN
          have hqc := hqs.cap
          have hqm := hqs.max
          have hbX := bel_trans HBW.out hb
          clear ho hpm
          obtain ⟨wm, rfl⟩ : ∃ wm : World, wm = wr := ⟨_, rfl⟩
          have L := Lib.hid (rnm_law HSM.out hpmI)
          have cR := rename_any p nA nl nc sA sl sc rA rl rc mA ml mc qA ql qc pm wm (HP.out.ext hbX) HV.out hqs hpmI
          clear hb hsz
          have HQS := Lib.hid hqs; clear hqs
          have HPMI := Lib.hid hpmI; clear hpmI
          have HBX := Lib.hid hbX; clear hbX
          have HXR := Lib.hid hxr; clear hxr
          have CR := Lib.hid cR; clear cR
          go_wp2_with fail
          go_fit CR.out; rintro e w6 ⟨nA', nl', nc', sA', sl', sc', rA', rl', rc', mA', ml', mc', rfl, hpq, hb6⟩
          have ha := bel_alloc w6 (.cells #[.int .i64 p.n, .slice nA' nl' nc', .slice sA' sl' sc', .slice rA' rl' rc', .slice mA' ml' mc'] 27)
          have b7 : Blk (w6.alloc (.cells #[.int .i64 p.n, .slice nA' nl' nc', .slice sA' sl' sc', .slice rA' rl' rc', .slice mA' ml' mc'] 27)) w6.heap.size 27 #[.int .i64 p.n, .slice nA' nl' nc', .slice sA' sl' sc', .slice rA' rl' rc', .slice mA' ml' mc'] := blk_new rfl _ _
          have hb67 := bel_trans hb6 ha
          have hpq7 := hpq.ext ha
          have hx7 := HXR.out.bel hb67
          have hqs7 := HQS.out.ext hb67
          have hb7 := bel_trans HBX.out hb67
          clear hb6 ha hpq HX HBW HQS p0 p1 p2 p3 p4 p5
          have HBW := Lib.hid hb7
          have HX := Lib.hid hx7
          have HQS := Lib.hid hqs7
          clear hb7 hx7 hqs7 hb67
          have HPQ7 := Lib.hid hpq7; clear hpq7
          have B7 := Lib.hid b7; clear b7
          obtain ⟨p0, p1, p2, p3, p4, p5⟩ := pcells HX.out
          go_wp2_with fail
          generalize w6.alloc (.cells #[.int .i64 p.n, .slice nA' nl' nc', .slice sA' sl' sc', .slice rA' rl' rc', .slice mA' ml' mc'] 27) = wa at *
          generalize w6.heap.size = bq at *
          go_fit (CALL.out _ HBW.out); rintro e w7 ⟨lA, ll, lc, rfl, hsl, hb⟩
          replace HX := Lib.hid (HX.out.bel hb)
          replace HBW := Lib.hid (bel_trans HBW.out hb)
          replace HQS := Lib.hid (HQS.out.ext hb)
          replace HPQ7 := Lib.hid (HPQ7.out.ext hb)
          have b8 := B7.out.bel hb
          clear hb
          clear p0 p1 p2 p3 p4 p5
          obtain ⟨p0, p1, p2, p3, p4, p5⟩ := pcells HX.out
          have cA2 := all_any (renP pm p) nA' nl' nc' sA' sl' sc' rA' rl' rc' mA' ml' mc' w7 HPQ7.out L.out.qv L.out.qs
          change Calls _ _ #[.agg #[.int .i64 p.n, .slice nA' nl' nc', .slice sA' sl' sc', .slice rA' rl' rc', .slice mA' ml' mc']] _ _ at cA2
          have HSL := Lib.hid hsl; clear hsl
          have B8 := Lib.hid b8; clear b8
          have CA2 := Lib.hid cA2; clear cA2
          go_wp2_with (refine wpList_load_row (by rfl) 27 _ (by rfl) bq (by rfl) 27 #[.int .i64 p.n, .slice nA' nl' nc', .slice sA' sl' sc', .slice rA' rl' rc', .slice mA' ml' mc'] (0, 0) _ B8.out Tryz.underlying27 rfl info_prog' ?_)
          go_fit CA2.out; rintro e w8 ⟨kA, kl, kc, rfl, hsk, hb⟩
          replace HX := Lib.hid (HX.out.bel hb)
          replace HBW := Lib.hid (bel_trans HBW.out hb)
          replace HQS := Lib.hid (HQS.out.ext hb)
          replace HPQ7 := Lib.hid (HPQ7.out.ext hb)
          replace HSL := Lib.hid (HSL.out.ext hb)
          have b9 := B8.out.bel hb
          clear hb
          clear p0 p1 p2 p3 p4 p5
          have hkl : ll = kl := by rw [HSL.out.len, hsk.len, L.out.len]
          subst hkl
          have hlc := HSL.out.cap
          have hlm := HSL.out.max
          have hll := HSL.out.len
          have hl40 := HSL.out.small
          have HSK := Lib.hid hsk; clear hsk
          have B9 := Lib.hid b9; clear b9
          have HLL := Lib.hid hll; clear hll
          go_wp2_with fail
          go_loopw [85] (fun t wr => ∃ (k_ : Nat), k_ ≤ ll ∧ t = .int .i64 (k_ : Int) ∧ Below w8.heap.size w8 wr) (fun t _ => ll - (intOf t).toNat)
          case atStart => exact ⟨0, Nat.zero_le _, rfl, Below.refl _ _⟩
          case round =>
            obtain ⟨k_, hk, rfl, hbk⟩ := hrel
            obtain ⟨wm, rfl⟩ : ∃ wm : World, wm = wr := ⟨_, rfl⟩
            by_cases hlt : k_ < ll
            · obtain ⟨m, hmk, -⟩ := HSL.out.drop hlt
              obtain ⟨ab, ao, xA, xl, xc, rfl, _, cx, hm⟩ := (HSL.out.ext hbk).set hmk
              have k0_ : (0 : Int) ≤ (k_ : Int) := by omega
              have k1_ : (k_ : Int) < (ll : Int) := by omega
              have HONE := Lib.hid (L.out.each m (List.mem_of_getElem? hmk))
              have hml := hm.len
              have hxl12 : xl ≤ 12 := by have := HONE.out.len; omega
              have hxc := hm.cap
              have hxm := hm.max
              have hxz := HX.out.bel hbk
              have hqz := HQS.out.ext hbk
              have hbz := bel_trans HBW.out hbk
              have hpz := HPQ7.out.ext hbk
              have hskz := HSK.out.ext hbk
              have b9z := B9.out.bel hbk
              have HM := Lib.hid hm
              have HBM := Lib.hid (Below.refl wm.heap.size wm)
              clear HX HQS HBW hm
              have HX := Lib.hid hxz
              have HQS := Lib.hid hqz
              have HBW := Lib.hid hbz
              clear hxz hqz hbz
              have HMK := Lib.hid hmk; clear hmk
              have HML := Lib.hid hml; clear hml
              have HPZ := Lib.hid hpz; clear hpz
              have HSKZ := Lib.hid hskz; clear hskz
              have B9Z := Lib.hid b9z; clear b9z
              have HBK := Lib.hid hbk; clear hbk
              go_wp2_with fail
              clear cx
              go_loopw [15, 16] (fun v t wr => ∃ (k lv : Nat), (k : Int) ≤ p.n ∧ t = .int .i64 ((k : Int) + 1) ∧ OwnI wr wm.heap.size v lv (movedU pm m k) ∧ Below wm.heap.size wm wr) (fun _ t _ => p.n.toNat + 1 - (intOf t).toNat)
              case atStart => exact ⟨0, 0, by omega, rfl, OwnI.nil _ _, Below.refl _ _⟩
              case round =>
                obtain ⟨k, lv, hk, rfl, ho, hb⟩ := hrel
                obtain ⟨wo, rfl⟩ : ∃ wo : World, wo = wr := ⟨_, rfl⟩
                have hsz := hb.size
                have hxr := HX.out.bel hb
                obtain ⟨p0, p1, p2, p3, p4, p5⟩ := pcells hxr
                by_cases hlt : (k : Int) < p.n
                · have j1 : ((k : Int) + 1) ≤ p.n := by omega
                  have hqs := HQS.out.ext hb
                  have HXR := Lib.hid hxr; clear hxr
                  go_wp2_with fail
                  go_loopw [15, 97] (fun v t wr => ∃ (j lv : Nat), j ≤ ql ∧ t = .int .i64 (j : Int) ∧ OwnI wr wm.heap.size v lv (movedV pm m k j) ∧ Below wm.heap.size wm wr) (fun _ t _ => ql - (intOf t).toNat)
                  case atStart => exact ⟨0, lv, by omega, rfl, by rw [movedV_zero]; exact ho, hb⟩
                  case round =>
                    clear ho hb hsz hqs lv
                    obtain ⟨j, lv, hj, rfl, ho, hb⟩ := hrel
                    have hsz := hb.size
                    by_cases hjl : j < ql
                    · obtain ⟨y, hy, -⟩ := HQS.out.drop hjl
                      obtain ⟨yb, yo, rfl, _, cy, y64⟩ := (HQS.out.ext hb).int hy
                      have j0 : (0 : Int) ≤ (j : Int) := by omega
                      have j2 : (j : Int) < (ql : Int) := by omega
                      have hgd : pm.getD j 0 = y := by rw [List.getD_eq_getElem?_getD, hy]; rfl
                      have hvs := movedV_succ pm m k j
                      have hlv := ho.len
                      have hvl := movedV_len pm m k j
                      have z1 : IntKind.i64.wrap ((j : Int) + 1) = (j : Int) + 1 := IntWalk.i64_in _ (by omega)
                      by_cases hya : y = (k : Int) + 1
                      · have t1 : (y == (k : Int) + 1) = true := by simpa using hya
                        have hmr := HM.out.ext (bel_trans HBM.out hb)
                        have cI := in1_any ((j : Int) + 1) xA xl xc m wr (by unfold I64; omega) hmr
                        by_cases hjm : (j : Int) + 1 ∈ m
                        · rw [decide_eq_true hjm] at cI
                          have hvf : mvF pm m ((k : Int) + 1) j = true := by unfold mvF; rw [hgd, decide_eq_true hya, decide_eq_true hjm]; rfl
                          rw [hvf, if_pos rfl] at hvs
                          have hb6 := bel_trans hb (bel_alloc wr (.cells #[.int .i64 ((j : Int) + 1)] 3))
                          have ho6 := ho.bel (bel_alloc wr (.cells #[.int .i64 ((j : Int) + 1)] 3))
                          obtain ⟨w6, hw6⟩ : ∃ w6, w6 = wr.alloc (.cells #[.int .i64 ((j : Int) + 1)] 3) := ⟨_, rfl⟩
                          rw [← hw6] at hb6 ho6
                          obtain ⟨v', w7, hrun, hown7, hg7, hat7⟩ := app1 ho6 ((k : Int) + 1) (by omega) hb6.size 23
                          have hb7 := bel_grown hb6 hg7 hb6.size (fun q hq => (ho6.2.lt q hq).1)
                          rw [← hvs] at hown7
                          have HY := Lib.hid hy; clear hy
                          have Y64 := Lib.hid y64; clear y64
                          have HGD := Lib.hid hgd; clear hgd
                          have HVS := Lib.hid hvs; clear hvs
                          have HMR := Lib.hid hmr; clear hmr
                          have CI := Lib.hid cI; clear cI
                          have HVF := Lib.hid hvf; clear hvf
                          have HB6 := Lib.hid hb6; clear hb6
                          have HO6 := Lib.hid ho6; clear ho6
                          have HRUN := Lib.hid hrun; clear hrun
                          have HOWN7 := Lib.hid hown7; clear hown7
                          have HG7 := Lib.hid hg7; clear hg7
                          have HAT7 := Lib.hid hat7; clear hat7
                          have HB7 := Lib.hid hb7; clear hb7
                          have HO := Lib.hid ho; clear ho
                          have HB := Lib.hid hb; clear hb
                          have HJM := Lib.hid hjm; clear hjm
                          have HYA := Lib.hid hya; clear hya
                          have HW6 := Lib.hid hw6; clear hw6
                          have HLV := Lib.hid hlv; clear hlv
                          go_wp2_with fail
                          go_fit CI.out; rintro e wz ⟨rfl, rfl⟩
                          rw [← HW6.out]
                          go_wp2_with (at_builtin; refine wpList_append_run rfl _ _ _ rfl _ _ rfl rfl _ _ HRUN.out ?_)
                          go_roundw
                          case rel => exact ⟨j + 1, lv + 1, by omega, by go_num, HOWN7.out, HB7.out⟩
                          case measure => simp [intOf]; omega
                        · rw [decide_eq_false hjm] at cI
                          have hvf : mvF pm m ((k : Int) + 1) j = false := by unfold mvF; rw [decide_eq_false hjm, Bool.and_false]
                          rw [hvf] at hvs
                          simp only [Bool.false_eq_true, if_false] at hvs
                          have hb6 := bel_trans hb (bel_alloc wr (.cells #[.int .i64 ((j : Int) + 1)] 3))
                          have ho6 := ho.bel (bel_alloc wr (.cells #[.int .i64 ((j : Int) + 1)] 3))
                          rw [← hvs] at ho6
                          have HY := Lib.hid hy; clear hy
                          have Y64 := Lib.hid y64; clear y64
                          have HGD := Lib.hid hgd; clear hgd
                          have HVS := Lib.hid hvs; clear hvs
                          have HMR := Lib.hid hmr; clear hmr
                          have CI := Lib.hid cI; clear cI
                          have HVF := Lib.hid hvf; clear hvf
                          have HB6 := Lib.hid hb6; clear hb6
                          have HO6 := Lib.hid ho6; clear ho6
                          have HO := Lib.hid ho; clear ho
                          have HB := Lib.hid hb; clear hb
                          have HJM := Lib.hid hjm; clear hjm
                          have HYA := Lib.hid hya; clear hya
                          have HLV := Lib.hid hlv; clear hlv
                          go_wp2_with fail
                          go_fit CI.out; rintro e wz ⟨rfl, rfl⟩
                          go_wp2_with fail
                          go_roundw
                          case rel => exact ⟨j + 1, lv, by omega, by go_num, HO6.out, HB6.out⟩
                          case measure => simp [intOf]; omega
                      · have t1 : (y == (k : Int) + 1) = false := by simpa using hya
                        have hvf : mvF pm m ((k : Int) + 1) j = false := by unfold mvF; rw [hgd, decide_eq_false hya, Bool.false_and]
                        rw [hvf] at hvs
                        simp only [Bool.false_eq_true, if_false] at hvs
                        rw [← hvs] at ho
                        have HY := Lib.hid hy; clear hy
                        have Y64 := Lib.hid y64; clear y64
                        have HGD := Lib.hid hgd; clear hgd
                        have HVS := Lib.hid hvs; clear hvs
                        have HVF := Lib.hid hvf; clear hvf
                        have HO := Lib.hid ho; clear ho
                        have HB := Lib.hid hb; clear hb
                        have HYA := Lib.hid hya; clear hya
                        have HLV := Lib.hid hlv; clear hlv
                        go_wp2_with fail
                        go_roundw
                        case rel => exact ⟨j + 1, lv, by omega, by go_num, HO.out, HB.out⟩
                        case measure => simp [intOf]; omega
                    · have hjq : j = pm.length := by omega
                      rw [hjq, movedV_all HPMI.out m k] at ho
                      have HO := Lib.hid ho; clear ho
                      have HB := Lib.hid hb; clear hb
                      have HJQ := Lib.hid hjq; clear hjq
                      go_wp2_with fail
                      go_roundw
                      case rel => exact ⟨k + 1, lv, by omega, by go_num, HO.out, HB.out⟩
                      case measure => simp [intOf]; omega
                · have hkN : k = p.n.toNat := by omega
                  have j1 : ¬ ((k : Int) + 1) ≤ p.n := by omega
                  subst hkN
                  rw [movedU_all] at ho
                  have hlv := ho.len
                  have hmvL := movedV_len pm m p.n.toNat 0
                  rw [movedV_zero, movedU_all] at hmvL
                  obtain ⟨vA, vc, rfl, hvs⟩ := ho.sl (by omega) (fun x hx => movedV_64 pm m (k := p.n.toNat) (by omega) 0 x (by rw [movedV_zero, movedU_all]; exact hx))
                  have hvc := hvs.cap
                  have hvm := hvs.max
                  have hlv12 : lv ≤ 12 := by omega
                  have HLV := Lib.hid hlv; clear hlv
                  have HMVL := Lib.hid hmvL; clear hmvL
                  have HMW := Lib.hid (HM.out.ext hb)
                  have HQZ := Lib.hid (HPZ.out.ext hb)
                  have HSKW := Lib.hid (HSKZ.out.ext hb)
                  have bqw := B9Z.out.bel hb
                  have HXQ := Lib.hid hxr
                  clear hxr
                  have HBY := Lib.hid (bel_trans HBW.out hb)
                  have HBKW := Lib.hid (bel_trans HBK.out hb)
                  have cC1 := stableCosts_any p nA nl nc sA sl sc rA rl rc mA ml mc xA xl xc m wo (HP.out.ext HBY.out) HMW.out
                  rw [HONE.out.c] at cC1
                  have HVS := Lib.hid hvs; clear hvs
                  have HB := Lib.hid hb; clear hb
                  have HO := Lib.hid ho; clear ho
                  have BQW := Lib.hid bqw; clear bqw
                  have CC1 := Lib.hid cC1; clear cC1
                  go_wp2_with fail
                  go_fit CC1.out; rintro e wc ⟨c1A, c1l, c1c, rfl, hc1, hb⟩
                  clear p0 p1 p2 p3 p4 p5
                  have HXW := Lib.hid (HXQ.out.bel hb)
                  replace HMW := Lib.hid (HMW.out.ext hb)
                  replace HQZ := Lib.hid (HQZ.out.ext hb)
                  replace HSKW := Lib.hid (HSKW.out.ext hb)
                  replace HBY := Lib.hid (bel_trans HBY.out hb)
                  replace HBKW := Lib.hid (bel_trans HBKW.out hb)
                  replace HVS := Lib.hid (HVS.out.ext hb)
                  have bqx := BQW.out.bel hb
                  clear hb
                  have cC2 := stableCosts_any (renP pm p) nA' nl' nc' sA' sl' sc' rA' rl' rc' mA' ml' mc' vA lv vc (movedL pm m p.n.toNat) wc HQZ.out HVS.out
                  rw [HONE.out.c2, HONE.out.cost] at cC2
                  change Calls _ _ #[.agg #[.int .i64 p.n, .slice nA' nl' nc', .slice sA' sl' sc', .slice rA' rl' rc', .slice mA' ml' mc'], .slice vA lv vc] _ _ at cC2
                  have BQX := Lib.hid bqx; clear bqx
                  have CC2 := Lib.hid cC2; clear cC2
                  have HC1 := Lib.hid hc1; clear hc1
                  go_wp2_with (refine wpList_load_row (by rfl) 27 _ (by rfl) bq (by rfl) 27 #[.int .i64 p.n, .slice nA' nl' nc', .slice sA' sl' sc', .slice rA' rl' rc', .slice mA' ml' mc'] (0, 0) _ BQX.out Tryz.underlying27 rfl info_prog' ?_)
                  go_fit CC2.out; rintro e wd ⟨c2A, c2l, c2c, rfl, hc2, hb⟩
                  replace HMW := Lib.hid (HMW.out.ext hb)
                  replace HSKW := Lib.hid (HSKW.out.ext hb)
                  replace HBY := Lib.hid (bel_trans HBY.out hb)
                  replace HBKW := Lib.hid (bel_trans HBKW.out hb)
                  replace HVS := Lib.hid (HVS.out.ext hb)
                  replace HC1 := Lib.hid (HC1.out.ext hb)
                  replace HXW := Lib.hid (HXW.out.bel hb)
                  clear hb HQZ BQX
                  have cH := hasM_any kA ll kc vA lv vc (allL (renP pm p)) (movedL pm m p.n.toNat) wd HSKW.out HVS.out
                  rw [HONE.out.mem] at cH
                  have HC2 := Lib.hid hc2; clear hc2
                  have CH := Lib.hid cH; clear cH
                  go_wp2_with fail
                  go_fit CH.out; rintro e we ⟨rfl, hb⟩
                  replace HMW := Lib.hid (HMW.out.ext hb)
                  replace HBY := Lib.hid (bel_trans HBY.out hb)
                  replace HBKW := Lib.hid (bel_trans HBKW.out hb)
                  replace HC1 := Lib.hid (HC1.out.ext hb)
                  replace HC2 := Lib.hid (HC2.out.ext hb)
                  replace HXW := Lib.hid (HXW.out.bel hb)
                  clear hb
                  have cE := lawInts_any c1A c1l c1c c2A c2l c2c (costsE p m) (costsE p m) we HC1.out HC2.out
                  rw [decide_eq_true rfl] at cE
                  have CE := Lib.hid cE; clear cE
                  go_wp2_with fail
                  go_fit CE.out; rintro e wf ⟨rfl, hb⟩
                  replace HMW := Lib.hid (HMW.out.ext hb)
                  replace HBY := Lib.hid (bel_trans HBY.out hb)
                  replace HBKW := Lib.hid (bel_trans HBKW.out hb)
                  replace HXW := Lib.hid (HXW.out.bel hb)
                  clear hb
                  go_wp2_with fail
                  go_loopw [149] (fun t wr => ∃ (i : Nat), i ≤ xl ∧ t = .int .i64 (i : Int) ∧ Below wf.heap.size wf wr) (fun t _ => xl - (intOf t).toNat)
                  case atStart => exact ⟨0, Nat.zero_le _, rfl, Below.refl _ _⟩
                  case round =>
                    obtain ⟨i, hi, rfl, hbi⟩ := hrel
                    by_cases hix : i < xl
                    · obtain ⟨a, hai, -⟩ := HMW.out.drop hix
                      obtain ⟨mb, mo, rfl, _, ca, a64⟩ := (HMW.out.ext hbi).int hai
                      have i0 : (0 : Int) ≤ (i : Int) := by omega
                      have i1 : (i : Int) < (xl : Int) := by omega
                      have hsup := HONE.out.sup a (List.mem_of_getElem? hai)
                      have hxi := HXW.out.bel hbi
                      obtain ⟨p0, p1, p2, p3, p4, p5⟩ := pcells hxi
                      have hmi := HMW.out.ext hbi
                      have hbyi := bel_trans HBY.out hbi
                      obtain ⟨wi, rfl⟩ : ∃ wi : World, wi = wr := ⟨_, rfl⟩
                      have HBI := Lib.hid hbi
                      clear hbi
                      have HAI := Lib.hid hai; clear hai
                      have A64 := Lib.hid a64; clear a64
                      have HSUP := Lib.hid hsup; clear hsup
                      have HXI := Lib.hid hxi; clear hxi
                      have HMI := Lib.hid hmi; clear hmi
                      have HBYI := Lib.hid hbyi; clear hbyi
                      go_wp2_with fail
                      clear p0 p1 p2 p3 p4 p5
                      go_loopw [25, 156] (fun z t wr => ∃ (j : Nat), j ≤ rl ∧ t = .int .i64 (j : Int) ∧ z = .bool ((p.rules.take j).any fun r => decide (a ∈ r.head) && bodyC r m) ∧ Below wi.heap.size wi wr) (fun _ t _ => rl - (intOf t).toNat)
                      case atStart => exact ⟨0, Nat.zero_le _, rfl, rfl, Below.refl _ _⟩
                      case round =>
                        obtain ⟨j, hj, rfl, rfl, hbj⟩ := hrel
                        by_cases hjl : j < rl
                        · obtain ⟨r, hrj, -⟩ := HP.out.rules.drop hjl
                          have hbyj := bel_trans HBYI.out hbj
                          obtain ⟨bb, off, hA, hl, hc, bA, bl, bc, wA, wl', wc', rfl, hbl2, c0, c1, c2, c3, c4, c5, g1, g2, g3, g4⟩ := (HP.out.rules.ext hbyj).rule hrj
                          have j0 : (0 : Int) ≤ (j : Int) := by omega
                          have j1 : (j : Int) < (rl : Int) := by omega
                          have hst := any_take' (f := fun r => decide (a ∈ r.head) && bodyC r m) hrj
                          have hhc := g1.cap
                          have hhm := g1.max
                          have hba := bel_alloc wr (.cells #[.bool r.choice, .slice hA hl hc, .bool r.sum, .int .i64 r.bound, .slice bA bl bc, .slice wA wl' wc'] 37)
                          have b1 : Blk (wr.alloc (.cells #[.bool r.choice, .slice hA hl hc, .bool r.sum, .int .i64 r.bound, .slice bA bl bc, .slice wA wl' wc'] 37)) wr.heap.size 37 #[.bool r.choice, .slice hA hl hc, .bool r.sum, .int .i64 r.bound, .slice bA bl bc, .slice wA wl' wc'] := blk_new rfl _ _
                          have hrin : RuleIn wr r hA hl hc bA bl bc wA wl' wc' := ⟨g1, g2, g3, g4⟩
                          have hmj := HMI.out.ext hbj
                          have hgh := g1
                          clear g1 g2 g3 g4
                          obtain ⟨wz, hwz⟩ : ∃ wz, wz = wr.alloc (.cells #[.bool r.choice, .slice hA hl hc, .bool r.sum, .int .i64 r.bound, .slice bA bl bc, .slice wA wl' wc'] 37) := ⟨_, rfl⟩
                          rw [← hwz] at hba b1
                          have hbjz := bel_trans hbj hba
                          have cI := in1_any a hA hl hc r.head wz A64.out (hgh.ext hba)
                          have hzs : wz.heap.size = wr.heap.size + 1 := by rw [hwz]; simp
                          rw [hzs] at cI
                          have q1 := b1.cell 1
                          clear hzs
                          cases hz : (p.rules.take j).any (fun r => decide (a ∈ r.head) && bodyC r m) with
                          | true =>
                            rw [hz, Bool.true_or] at hst
                            have HRJ := Lib.hid hrj; clear hrj
                            have HST := Lib.hid hst; clear hst
                            have HRIN := Lib.hid hrin; clear hrin
                            have HMJ := Lib.hid hmj; clear hmj
                            have HGH := Lib.hid hgh; clear hgh
                            have B1 := Lib.hid b1; clear b1
                            have HBA := Lib.hid hba; clear hba
                            have HBYJ := Lib.hid hbyj; clear hbyj
                            have HBJZ := Lib.hid hbjz; clear hbjz
                            have CI := Lib.hid cI; clear cI
                            have HBJ := Lib.hid hbj; clear hbj
                            have HZ := Lib.hid hz; clear hz
                            clear hwz q1
                            go_wp2_with fail
                            go_roundw
                            case rel => exact ⟨j + 1, by omega, by go_num, by rw [HST.out], bel_trans HBJ.out (bel_alloc _ _)⟩
                            case measure => simp [intOf]; omega
                          | false =>
                            rw [hz, Bool.false_or] at hst
                            have hb8 := bel_alloc wz (.cells #[.int .i64 a] 3)
                            have b18 := b1.bel hb8
                            have hbj8 := bel_trans hbjz hb8
                            have hba8 := bel_trans hba hb8
                            have cBd := bodyOut_any r _ _ _ _ _ _ _ _ _ _ _ _ m _ (hrin.ext hba8) (hmj.ext hba8)
                            by_cases hah : a ∈ r.head
                            · rw [decide_eq_true hah] at cI hst
                              rw [Bool.true_and] at hst
                              have HRJ := Lib.hid hrj; clear hrj
                              have HST := Lib.hid hst; clear hst
                              have HRIN := Lib.hid hrin; clear hrin
                              have HMJ := Lib.hid hmj; clear hmj
                              have HGH := Lib.hid hgh; clear hgh
                              have B1 := Lib.hid b1; clear b1
                              have HBA := Lib.hid hba; clear hba
                              have HBYJ := Lib.hid hbyj; clear hbyj
                              have HBJZ := Lib.hid hbjz; clear hbjz
                              have CI := Lib.hid cI; clear cI
                              have HBJ := Lib.hid hbj; clear hbj
                              have HZ := Lib.hid hz; clear hz
                              have HB8 := Lib.hid hb8; clear hb8
                              have B18 := Lib.hid b18; clear b18
                              have HBJ8 := Lib.hid hbj8; clear hbj8
                              have HBA8 := Lib.hid hba8; clear hba8
                              have CBD := Lib.hid cBd; clear cBd
                              have HAH := Lib.hid hah; clear hah
                              go_wp2_with fail
                              rw [← hwz]
                              clear hwz
                              go_wp2_with fail
                              go_fit CI.out; rintro e ww ⟨rfl, rfl⟩
                              have y0 := B18.out.cell 0
                              have y1 := B18.out.cell 1
                              have y2 := B18.out.cell 2
                              have y3 := B18.out.cell 3
                              have y4 := B18.out.cell 4
                              have y5 := B18.out.cell 5
                              go_wp2_with (refine wpList_load_row (by rfl) 37 _ (by rfl) wr.heap.size (by rfl) 37 #[.bool r.choice, .slice hA hl hc, .bool r.sum, .int .i64 r.bound, .slice bA bl bc, .slice wA wl' wc'] (0, 0) _ B18.out Tryz.underlying37 rfl info_rule ?_)
                              go_fit CBD.out; rintro e ww ⟨rfl, hb9⟩
                              have HB9 := Lib.hid (bel_trans HBJ8.out hb9)
                              clear hb9
                              go_wp2_with fail
                              go_roundw
                              case rel => exact ⟨j + 1, by omega, by go_num, by rw [HST.out], HB9.out⟩
                              case measure => simp [intOf]; omega
                            · rw [decide_eq_false hah] at cI hst
                              rw [Bool.false_and] at hst
                              have HRJ := Lib.hid hrj; clear hrj
                              have HST := Lib.hid hst; clear hst
                              have HRIN := Lib.hid hrin; clear hrin
                              have HMJ := Lib.hid hmj; clear hmj
                              have HGH := Lib.hid hgh; clear hgh
                              have B1 := Lib.hid b1; clear b1
                              have HBA := Lib.hid hba; clear hba
                              have HBYJ := Lib.hid hbyj; clear hbyj
                              have HBJZ := Lib.hid hbjz; clear hbjz
                              have CI := Lib.hid cI; clear cI
                              have HBJ := Lib.hid hbj; clear hbj
                              have HZ := Lib.hid hz; clear hz
                              have HB8 := Lib.hid hb8; clear hb8
                              have B18 := Lib.hid b18; clear b18
                              have HBJ8 := Lib.hid hbj8; clear hbj8
                              have HBA8 := Lib.hid hba8; clear hba8
                              have CBD := Lib.hid cBd; clear cBd
                              have HAH := Lib.hid hah; clear hah
                              go_wp2_with fail
                              rw [← hwz]
                              clear hwz
                              go_wp2_with fail
                              go_fit CI.out; rintro e ww ⟨rfl, rfl⟩
                              go_wp2_with fail
                              go_roundw
                              case rel => exact ⟨j + 1, by omega, by go_num, by rw [HST.out], HBJ8.out⟩
                              case measure => simp [intOf]; omega
                        · rw [List.take_of_length_le (show p.rules.length ≤ j by have := HRL.out; omega), HSUP.out]
                          have hbij := bel_trans HBI.out hbj
                          have HBIJ := Lib.hid hbij; clear hbij
                          have HBJ := Lib.hid hbj; clear hbj
                          go_wp2_with fail
                          go_roundw
                          case rel => exact ⟨i + 1, by omega, by go_num, HBIJ.out⟩
                          case measure => simp [intOf]; omega
                    · have hbx := bel_trans HBKW.out hbi
                      have HBX := Lib.hid hbx; clear hbx
                      have HBI := Lib.hid hbi; clear hbi
                      go_wp2_with fail
                      go_roundw
                      case rel => exact ⟨k_ + 1, by omega, by go_num, HBX.out⟩
                      case measure => simp [intOf]; omega
            · have k1_ : ¬ (k_ : Int) < (ll : Int) := by omega
              have HBE := Lib.hid (bel_trans HBW.out hbk)
              clear hbk
              go_wp2_with fail
              go_fit (CA.out _); rintro e wy ⟨rfl, hb⟩
              have HBZ := Lib.hid (bel_trans HBE.out hb)
              clear hb
              go_wp2_with fail
              go_ret
              exact ⟨rfl, HBZ.out⟩
end Go.Proofs.YtdmcclfagjgcgaaGreat

/- The law GraphTells: it answers true and changes nothing that was there. -/
import Derived.Test.YtbfbkpoakmnlpaaGV
import Derived.Test.YtbfbkpoakmnlpaaRat
import Derived.Test.YtbfbkpoakmnlpaaG8
import Derived.Test.YtbfbkpoakmnlpaaRtg
import Derived.Test.YtbfbkpoakmnlpaaRth
import Derived.Test.YtbfbkpoakmnlpaaRtx
namespace Go.Proofs.Ytbfbkpoakmnlpaa
open Go.RowKit

def nmD (l : List Int) : List Int := l.drop 1
theorem nmD_set (l : List Int) (n : Nat) (v : Int) : (nmD l).set n v = nmD (l.set (n + 1) v) := by
  unfold nmD
  cases l with
  | nil => simp
  | cons a t => simp
theorem nmD_get (l : List Int) (n : Nat) : (nmD l)[n]? = l[n + 1]? := by
  unfold nmD
  cases l with
  | nil => simp
  | cons a t => simp
set_option maxRecDepth 100000 in
set_option maxHeartbeats 8000000 in
theorem graphTells_law (p : GProg) (nA : Option Addr) (nl nc : Nat) (sA : Option Addr) (sl sc : Nat) (rA : Option Addr) (rl rc : Nat) (mA : Option Addr) (ml mc : Nat) (w : World) (hp : ProgIn w p nA nl nc sA sl sc rA rl rc mA ml mc) :
    Calls Try.prog 3 #[.agg #[.int .i64 p.n, .slice nA nl nc, .slice sA sl sc, .slice rA rl rc, .slice mA ml mc]] w fun e w' => e = .returned (.bool true) ∧ Below w.heap.size w w' := by
  have cF := fun W (hb : Below w.heap.size w W) => few_any p nA nl nc sA sl sc rA rl rc mA ml mc W (hp.ext hb)
  have cA := awake21_any
  have hx0 := Blk.new w 27 #[.int .i64 p.n, .slice nA nl nc, .slice sA sl sc, .slice rA rl rc, .slice mA ml mc]
  have hpn := hp.n
  cases hq : fewB p with
  | false =>
    rw [hq] at cF
    have HP := Lib.hid hp; clear hp
    have CF := Lib.hid cF; clear cF
    have CA := Lib.hid cA; clear cA
    have HX0 := Lib.hid hx0; clear hx0
    have HQ := Lib.hid hq; clear hq
    have HPN := Lib.hid hpn; clear hpn
    go_enter Try.func3, Try.ntmps3
    go_wp2_with fail
    go_fit (CF.out _ (bel_alloc _ _)); rintro e w1 ⟨rfl, hb1⟩
    have HBW := Lib.hid (bel_trans (bel_alloc _ _) hb1)
    have HX := Lib.hid (HX0.out.bel hb1)
    clear hb1
    obtain ⟨p0, p1, p2, p3, p4, p5⟩ := pcells HX.out
    go_wp2_with fail
    go_fit (CA.out _); rintro e wz ⟨rfl, hbz⟩
    have HB3 := Lib.hid (bel_trans HBW.out hbz)
    clear hbz
    go_wp2_with fail
    go_ret
    exact ⟨rfl, HB3.out⟩
  | true =>
    rw [hq] at cF
    by_cases h8 : 8 < p.n
    · have hd8 : decide (8 < p.n) = true := decide_eq_true h8
      have HP := Lib.hid hp; clear hp
      have CF := Lib.hid cF; clear cF
      have CA := Lib.hid cA; clear cA
      have HX0 := Lib.hid hx0; clear hx0
      have HQ := Lib.hid hq; clear hq
      have HPN := Lib.hid hpn; clear hpn
      go_enter Try.func3, Try.ntmps3
      go_wp2_with fail
      go_fit (CF.out _ (bel_alloc _ _)); rintro e w1 ⟨rfl, hb1⟩
      have HBW := Lib.hid (bel_trans (bel_alloc _ _) hb1)
      have HX := Lib.hid (HX0.out.bel hb1)
      clear hb1
      obtain ⟨p0, p1, p2, p3, p4, p5⟩ := pcells HX.out
      go_wp2_with fail
      go_fit (CA.out _); rintro e wz ⟨rfl, hbz⟩
      have HB3 := Lib.hid (bel_trans HBW.out hbz)
      clear hbz
      go_wp2_with fail
      go_ret
      exact ⟨rfl, HB3.out⟩
    · have hd8 : decide (8 < p.n) = false := decide_eq_false h8
      have cV := fun W (hb : Below w.heap.size w W) => refValid_any p nA nl nc sA sl sc rA rl rc mA ml mc W (hp.ext hb)
      by_cases hv : validE p = 0
      · have hi := validE_is hv
        have h0 : 0 ≤ p.n := (namedB_n hi.named).1
        have h12 : p.n ≤ 12 := by omega
        have cE := fun W (hb : Below w.heap.size w W) => edges_any p nA nl nc sA sl sc rA rl rc mA ml mc W (hp.ext hb) hv
        have cC := fun W (hb : Below w.heap.size w W) => comps_any p nA nl nc sA sl sc rA rl rc mA ml mc W (hp.ext hb) hv
        have cN := fun W (hb : Below w.heap.size w W) => number_any p nA nl nc sA sl sc rA rl rc mA ml mc W (hp.ext hb) hv
        have cT := fun W (hb : Below w.heap.size w W) => tight_any p nA nl nc sA sl sc rA rl rc mA ml mc W (hp.ext hb) hv
        have cH := fun W (hb : Below w.heap.size w W) => free_any p nA nl nc sA sl sc rA rl rc mA ml mc W (hp.ext hb) hv
        have cY := fun W (hb : Below w.heap.size w W) => cycle_any p nA nl nc sA sl sc rA rl rc mA ml mc W (hp.ext hb) hv
        have rC := fun W (hb : Below w.heap.size w W) => refComps_any p nA nl nc sA sl sc rA rl rc mA ml mc W (hp.ext hb) hv h12
        have rE := fun W (hb : Below w.heap.size w W) => refEdges_any p nA nl nc sA sl sc rA rl rc mA ml mc W (hp.ext hb) hv h12
        have rT := fun W (hb : Below w.heap.size w W) => refTight_any p nA nl nc sA sl sc rA rl rc mA ml mc W (hp.ext hb) hv h12
        have rH := fun W (hb : Below w.heap.size w W) => refFree_any p nA nl nc sA sl sc rA rl rc mA ml mc W (hp.ext hb) hv h12
        have rY := fun W (hb : Below w.heap.size w W) => refCycle_any p nA nl nc sA sl sc rA rl rc mA ml mc W (hp.ext hb) hv h12
        rw [hv] at cV
        have L := Lib.hid (parts_law hi)
        obtain ⟨N, hN⟩ : ∃ N : Nat, N = p.n.toNat := ⟨_, rfl⟩
        have hNn : p.n = (N : Int) := by omega
        have hN8 : N ≤ 8 := by omega
        have hnl : numsL p = nmD (numGo (List.replicate (N + 1) 0) 0 (compsL p)) := by rw [hN]; rfl
        have hcl : (compsL p).length ≤ N + 1 := by have := comp_len' (comps_part hi).ok; rw [of_len, ← hN] at this; exact this
        rw [hNn] at cF hx0 cV cE cC cN cT cH cY rC rE rT rH rY hd8
        rw [hNn]
        have hmk : ∀ W : World, (Instr.makeSlice 23 (.int .i64 (N : Int)) (.int .i64 (N : Int))).run Try.prog W = .ok (.slice (some ⟨W.heap.size, 0, none⟩) N N) (W.alloc (.cells (intC (nmD (numGo (List.replicate (N + 1) 0) 0 []))) 3)) := fun W => by
          have h := run_make_row' (P := Try.prog) 23 3 (.int .i64 0) 8 Try.underlying23 info_int rfl .i64 .i64 N (by omega) (by omega) W
          have e : madeCells #[Value.int .i64 0] N = intC (nmD (numGo (List.replicate (N + 1) 0) 0 [])) := by
            unfold madeCells intC nmD
            rw [numGo]
            apply Array.ext
            · simp
            · intro i h1 h2
              simp [Nat.mod_one]
          rw [e] at h
          exact h
        have HP := Lib.hid hp; clear hp
        have CF := Lib.hid cF; clear cF
        have CA := Lib.hid cA; clear cA
        have HX0 := Lib.hid hx0; clear hx0
        have HQ := Lib.hid hq; clear hq
        have HPN := Lib.hid hpn; clear hpn
        have CV := Lib.hid cV; clear cV
        have CE := Lib.hid cE; clear cE
        have CC := Lib.hid cC; clear cC
        have CN := Lib.hid cN; clear cN
        have CT := Lib.hid cT; clear cT
        have CH := Lib.hid cH; clear cH
        have CY := Lib.hid cY; clear cY
        have RC := Lib.hid rC; clear rC
        have RE := Lib.hid rE; clear rE
        have RT := Lib.hid rT; clear rT
        have RH := Lib.hid rH; clear rH
        have RY := Lib.hid rY; clear rY
        have HV := Lib.hid hv; clear hv
        have HI := Lib.hid hi; clear hi
        have HN := Lib.hid hN; clear hN
        have HNL := Lib.hid hnl; clear hnl
        have HCL := Lib.hid hcl; clear hcl
        go_enter Try.func3, Try.ntmps3
        go_wp2_with fail
        go_fit (CF.out _ (bel_alloc _ _)); rintro e w1 ⟨rfl, hb1⟩
        have HBW := Lib.hid (bel_trans (bel_alloc _ _) hb1)
        have HX := Lib.hid (HX0.out.bel hb1)
        clear hb1
        obtain ⟨p0, p1, p2, p3, p4, p5⟩ := pcells HX.out
        go_wp2_with fail
        go_fit (CE.out _ HBW.out); rintro e w2 ⟨eA, el, ec, rfl, hE, -, hb⟩
        have HE := Lib.hid hE; clear hE
        have HBW' := Lib.hid (bel_trans HBW.out hb)
        have HX' := Lib.hid (HX.out.bel hb)
        clear HBW HX
        have HBW := HBW'
        have HX := HX'
        clear HBW' HX' hb
        clear p0 p1 p2 p3 p4 p5
        obtain ⟨p0, p1, p2, p3, p4, p5⟩ := pcells HX.out
        go_wp2_with fail
        go_fit (CC.out _ HBW.out); rintro e w3 ⟨cA, cl, cc, rfl, hC, -, hb⟩
        have hE2 := HE.out.ext hb
        have HC := Lib.hid hC; clear hC
        have HE2 := Lib.hid hE2; clear hE2
        have HBW' := Lib.hid (bel_trans HBW.out hb)
        have HX' := Lib.hid (HX.out.bel hb)
        clear HBW HX
        have HBW := HBW'
        have HX := HX'
        clear HBW' HX' hb
        clear p0 p1 p2 p3 p4 p5
        obtain ⟨p0, p1, p2, p3, p4, p5⟩ := pcells HX.out
        go_wp2_with fail
        go_fit (CN.out _ HBW.out); rintro e w4 ⟨uA, ul, uc, rfl, hU, -, hb⟩
        have hE3 := HE2.out.ext hb
        have hC3 := HC.out.ext hb
        have HU := Lib.hid hU; clear hU
        have HE3 := Lib.hid hE3; clear hE3
        have HC3 := Lib.hid hC3; clear hC3
        have HBW' := Lib.hid (bel_trans HBW.out hb)
        have HX' := Lib.hid (HX.out.bel hb)
        clear HBW HX
        have HBW := HBW'
        have HX := HX'
        clear HBW' HX' hb
        clear p0 p1 p2 p3 p4 p5
        obtain ⟨p0, p1, p2, p3, p4, p5⟩ := pcells HX.out
        go_wp2_with fail
        go_fit (CT.out _ HBW.out); rintro e w5 ⟨rfl, hb⟩
        have hE4 := HE3.out.ext hb
        have hC4 := HC3.out.ext hb
        have hU4 := HU.out.ext hb
        have HE4 := Lib.hid hE4; clear hE4
        have HC4 := Lib.hid hC4; clear hC4
        have HU4 := Lib.hid hU4; clear hU4
        have HBW' := Lib.hid (bel_trans HBW.out hb)
        have HX' := Lib.hid (HX.out.bel hb)
        clear HBW HX
        have HBW := HBW'
        have HX := HX'
        clear HBW' HX' hb
        clear p0 p1 p2 p3 p4 p5
        obtain ⟨p0, p1, p2, p3, p4, p5⟩ := pcells HX.out
        go_wp2_with fail
        go_fit (CH.out _ HBW.out); rintro e w6 ⟨rfl, hb⟩
        have hE5 := HE4.out.ext hb
        have hC5 := HC4.out.ext hb
        have hU5 := HU4.out.ext hb
        have HE5 := Lib.hid hE5; clear hE5
        have HC5 := Lib.hid hC5; clear hC5
        have HU5 := Lib.hid hU5; clear hU5
        have HBW' := Lib.hid (bel_trans HBW.out hb)
        have HX' := Lib.hid (HX.out.bel hb)
        clear HBW HX
        have HBW := HBW'
        have HX := HX'
        clear HBW' HX' hb
        clear p0 p1 p2 p3 p4 p5
        obtain ⟨p0, p1, p2, p3, p4, p5⟩ := pcells HX.out
        go_wp2_with fail
        go_fit (CY.out _ HBW.out); rintro e w7 ⟨yA, yl, yc, rfl, hY, -, hb⟩
        have hE6 := HE5.out.ext hb
        have hC6 := HC5.out.ext hb
        have hU6 := HU5.out.ext hb
        have HE6 := Lib.hid hE6; clear hE6
        have HC6 := Lib.hid hC6; clear hC6
        have HU6 := Lib.hid hU6; clear hU6
        have HY := Lib.hid hY; clear hY
        have HBW' := Lib.hid (bel_trans HBW.out hb)
        have HX' := Lib.hid (HX.out.bel hb)
        clear HBW HX
        have HBW := HBW'
        have HX := HX'
        clear HBW' HX' hb
        clear p0 p1 p2 p3 p4 p5
        obtain ⟨p0, p1, p2, p3, p4, p5⟩ := pcells HX.out
        go_wp2_with fail
        go_fit (CV.out _ HBW.out); rintro e w8 ⟨rfl, hb⟩
        have hE7 := HE6.out.ext hb
        have hC7 := HC6.out.ext hb
        have hU7 := HU6.out.ext hb
        have hY7 := HY.out.ext hb
        have HE7 := Lib.hid hE7; clear hE7
        have HC7 := Lib.hid hC7; clear hC7
        have HU7 := Lib.hid hU7; clear hU7
        have HY7 := Lib.hid hY7; clear hY7
        have HBW' := Lib.hid (bel_trans HBW.out hb)
        have HX' := Lib.hid (HX.out.bel hb)
        clear HBW HX
        have HBW := HBW'
        have HX := HX'
        clear HBW' HX' hb
        clear p0 p1 p2 p3 p4 p5
        obtain ⟨p0, p1, p2, p3, p4, p5⟩ := pcells HX.out
        clear HE HE2 HE3 HE4 HE5 HE6 HC HC3 HC4 HC5 HC6 HU HU4 HU5 HU6 HY
        go_wp2_with fail
        go_fit (RC.out _ HBW.out); rintro e w9 ⟨dA, dl, dc, rfl, hD, hb⟩
        have hE8 := HE7.out.ext hb
        have hC8 := HC7.out.ext hb
        have hU8 := HU7.out.ext hb
        have hY8 := HY7.out.ext hb
        have hdl := hD.len
        have hdc := hD.cap
        have hdm := hD.max
        have hd9 : dl ≤ 9 := by have := HCL.out; omega
        have HE8 := Lib.hid hE8; clear hE8
        have HC8 := Lib.hid hC8; clear hC8
        have HU8 := Lib.hid hU8; clear hU8
        have HY8 := Lib.hid hY8; clear hY8
        have HD := Lib.hid hD; clear hD
        have HDL := Lib.hid hdl; clear hdl
        have HBW' := Lib.hid (bel_trans HBW.out hb)
        have HX' := Lib.hid (HX.out.bel hb)
        clear HBW HX
        have HBW := HBW'
        have HX := HX'
        clear HBW' HX' hb
        clear p0 p1 p2 p3 p4 p5
        obtain ⟨p0, p1, p2, p3, p4, p5⟩ := pcells HX.out
        clear HE7 HC7 HU7 HY7
        go_wp2_with fail
        have hn0 := Blk.new w9 3 (intC (nmD (numGo (List.replicate (N + 1) 0) 0 [])))
        have hb0 := bel_alloc w9 (.cells (intC (nmD (numGo (List.replicate (N + 1) 0) 0 []))) 3)
        clear hmk
        clear p0 p1 p2 p3 p4 p5
        generalize w9.alloc (.cells (intC (nmD (numGo (List.replicate (N + 1) 0) 0 []))) 3) = w10 at *
        have HN0 := Lib.hid hn0; clear hn0
        have HB0 := Lib.hid hb0; clear hb0
        go_loopw [123] (fun t wr => ∃ ir : Nat, ir ≤ dl ∧ t = .int .i64 (ir : Int) ∧ Blk wr w9.heap.size 3 (intC (nmD (numGo (List.replicate (N + 1) 0) 0 ((compsL p).take ir)))) ∧ Below w9.heap.size w9 wr) (fun t _ => dl - (intOf t).toNat)
        case atStart => exact ⟨0, Nat.zero_le _, rfl, HN0.out, HB0.out⟩
        case round =>
          obtain ⟨ir, hir, rfl, hbk, hbl⟩ := hrel
          obtain ⟨wo, rfl⟩ : ∃ wo : World, wo = wr := ⟨_, rfl⟩
          by_cases hlt : ir < dl
          · obtain ⟨c, hci, -⟩ := HD.out.drop hlt
            obtain ⟨xb, xo, xA, xl, xc, rfl, lx0, cx0, hxr⟩ := HD.out.set hci
            have cx := (hbl.cell (World.block_lt_of_cell? _ _ cx0)).trans cx0
            clear cx0
            have k0 : (0 : Int) ≤ (ir : Int) := by omega
            have k1 : (ir : Int) < (dl : Int) := by omega
            have hxc := hxr.cap
            have hxm := hxr.max
            have hxl := hxr.len
            have hcr := L.out.rng ir c hci
            obtain ⟨out, hout⟩ : ∃ out, out = numGo (List.replicate (N + 1) 0) 0 ((compsL p).take ir) := ⟨_, rfl⟩
            rw [← hout] at hbk
            have hol : out.length = N + 1 := by rw [hout, numGo_len, List.length_replicate]
            have HCI := Lib.hid hci; clear hci
            have HXR := Lib.hid hxr; clear hxr
            have HCR := Lib.hid hcr; clear hcr
            have HBK := Lib.hid hbk; clear hbk
            have HBL := Lib.hid hbl; clear hbl
            have HOUT := Lib.hid hout; clear hout
            have HOL := Lib.hid hol; clear hol
            have HXL := Lib.hid hxl; clear hxl
            go_wp2_with fail
            clear cx
            go_loopw [130] (fun t wr => ∃ j : Nat, j ≤ xl ∧ t = .int .i64 (j : Int) ∧ Blk wr w9.heap.size 3 (intC (nmD (numFill (ir : Int) out (c.take j)))) ∧ Below w9.heap.size w9 wr) (fun t _ => xl - (intOf t).toNat)
            case atStart => exact ⟨0, Nat.zero_le _, rfl, HBK.out, HBL.out⟩
            case round =>
              obtain ⟨j, hj, rfl, hb2, hbi⟩ := hrel
              obtain ⟨wi, rfl⟩ : ∃ wi : World, wi = wr := ⟨_, rfl⟩
              by_cases hjl : j < xl
              · obtain ⟨a, haj, -⟩ := HXR.out.drop hjl
                have hxi := HXR.out.ext hbi
                obtain ⟨ab, ao, ea, la, ca, a64⟩ := hxi.int haj
                cases ea
                obtain ⟨a1, a2, -⟩ := HCR.out j a haj
                obtain ⟨an, rfl⟩ : ∃ an : Nat, a = (an : Int) + 1 := ⟨(a - 1).toNat, by omega⟩
                have j0 : (0 : Int) ≤ (j : Int) := by omega
                have j1 : (j : Int) < (xl : Int) := by omega
                have an0 : (0 : Int) ≤ (an : Int) := by omega
                have an1 : (an : Int) < (N : Int) := by omega
                have an2 : (an : Int) + 1 - 1 = (an : Int) := by omega
                have hfl : (numFill (ir : Int) out (c.take j)).length = N + 1 := by rw [numFill_len]; exact HOL.out
                obtain ⟨v0, hv0⟩ : ∃ v0, wi.cell? ⟨w9.heap.size, an, none⟩ = some v0 := by
                  rw [hb2.cell, intC_get, nmD_get, List.getElem?_eq_getElem (show an + 1 < _ by omega)]; exact ⟨_, rfl⟩
                have hz0 := hb2.frozen an
                have hb3 := hb2.set_ an (.int .i64 (ir : Int))
                rw [intC_set, nmD_set] at hb3
                have e3 : (numFill (ir : Int) out (c.take j)).set (an + 1) (ir : Int) = numFill (ir : Int) out (c.take (j + 1)) := by
                  rw [take_snoc' haj, numFill_snoc]
                  show _ = (numFill (ir : Int) out (c.take j)).set ((an : Int) + 1).toNat (ir : Int)
                  rw [show ((an : Int) + 1).toNat = an + 1 by omega]
                rw [e3] at hb3
                have hb4 := Kept.below hbi ((Kept.refl [w9.heap.size] wi).set (p := ⟨w9.heap.size, an, none⟩) (.inl (by simp)) (.int .i64 (ir : Int))) hbi.size (by simp)
                clear hfl e3
                have HAJ := Lib.hid haj; clear haj
                have HXI := Lib.hid hxi; clear hxi
                have HB2 := Lib.hid hb2; clear hb2
                have HB3 := Lib.hid hb3; clear hb3
                have HB4 := Lib.hid hb4; clear hb4
                have HBI := Lib.hid hbi; clear hbi
                go_wp2_with fail
                go_roundw
                case rel => exact ⟨j + 1, by omega, by go_num, HB3.out, HB4.out⟩
                case measure => simp [intOf]; omega
              · obtain rfl : xl = j := by omega
                rw [List.take_of_length_le (by have := HXL.out; omega)] at hb2
                have hst : numFill (ir : Int) out c = numGo (List.replicate (N + 1) 0) 0 ((compsL p).take (ir + 1)) := by
                  rw [take_snoc' HCI.out, numGo_snoc, ← HOUT.out, List.length_take]
                  congr 1
                  have := HDL.out
                  omega
                rw [hst] at hb2
                have j1 : ¬ (xl : Int) < (xl : Int) := by omega
                have HB2 := Lib.hid hb2; clear hb2
                have HBI := Lib.hid hbi; clear hbi
                have HST := Lib.hid hst; clear hst
                go_wp2_with fail
                go_roundw
                case rel => exact ⟨ir + 1, by omega, by go_num, HB2.out, HBI.out⟩
                case measure => simp [intOf]; omega
          · obtain rfl : dl = ir := by omega
            rw [List.take_of_length_le (by have := HDL.out; omega), ← HNL.out] at hbk
            have hnl3 : (numsL p).length = N := by have := L.out.len; omega
            have hns : SlIs intR wo (some ⟨w9.heap.size, 0, none⟩) N N (numsL p) := sl_ints (numsL p) hbk hnl3.symm (by omega) (fun z hz => by
              have h3 := num_all p.n.toNat (compsL p) z (by unfold numsL at hz; exact List.mem_of_mem_drop hz)
              have := HCL.out
              unfold I64; omega)
            have k1 : ¬ (dl : Int) < (dl : Int) := by omega
            have hE9 := HE8.out.ext hbl
            have hC9 := HC8.out.ext hbl
            have hU9 := HU8.out.ext hbl
            have hY9 := HY8.out.ext hbl
            have hD9 := HD.out.ext hbl
            have hb := hbl
            clear hnl3
            have HBK := Lib.hid hbk; clear hbk
            have HBL := Lib.hid hbl; clear hbl
            have HNS := Lib.hid hns; clear hns
            have HE9 := Lib.hid hE9; clear hE9
            have HC9 := Lib.hid hC9; clear hC9
            have HU9 := Lib.hid hU9; clear hU9
            have HY9 := Lib.hid hY9; clear hY9
            have HD9 := Lib.hid hD9; clear hD9
            obtain ⟨p0, p1, p2, p3, p4, p5⟩ := pcells HX.out
            have HBW' := Lib.hid (bel_trans HBW.out hb)
            have HX' := Lib.hid (HX.out.bel hb)
            clear HBW HX
            have HBW := HBW'
            have HX := HX'
            clear HBW' HX' hb
            clear p0 p1 p2 p3 p4 p5
            obtain ⟨p0, p1, p2, p3, p4, p5⟩ := pcells HX.out
            go_wp2_with fail
            go_fit (RE.out _ HBW.out); rintro e v1 ⟨qA, ql, qc, rfl, hq1, hb⟩
            have hE10 := HE9.out.ext hb
            have hC10 := HC9.out.ext hb
            have hU10 := HU9.out.ext hb
            have hY10 := HY9.out.ext hb
            have hD10 := HD9.out.ext hb
            have hns10 := HNS.out.ext hb
            have HE10 := Lib.hid hE10; clear hE10
            have HC10 := Lib.hid hC10; clear hC10
            have HU10 := Lib.hid hU10; clear hU10
            have HY10 := Lib.hid hY10; clear hY10
            have HD10 := Lib.hid hD10; clear hD10
            have HNS10 := Lib.hid hns10; clear hns10
            have HQ1 := Lib.hid hq1; clear hq1
            have HBW' := Lib.hid (bel_trans HBW.out hb)
            have HX' := Lib.hid (HX.out.bel hb)
            clear HBW HX
            have HBW := HBW'
            have HX := HX'
            clear HBW' HX' hb
            clear p0 p1 p2 p3 p4 p5
            obtain ⟨p0, p1, p2, p3, p4, p5⟩ := pcells HX.out
            go_wp2_with fail
            go_fit (edges21_any _ _ _ _ _ _ (edgeL p) (edgeL p) _ HE10.out HQ1.out); rintro e v2 ⟨rfl, hb⟩
            rw [show decide (edgeL p = edgeL p) = true from by simp]
            have hC11 := HC10.out.ext hb
            have hU11 := HU10.out.ext hb
            have hY11 := HY10.out.ext hb
            have hD11 := HD10.out.ext hb
            have hns11 := HNS10.out.ext hb
            have HC11 := Lib.hid hC11; clear hC11
            have HU11 := Lib.hid hU11; clear hU11
            have HY11 := Lib.hid hY11; clear hY11
            have HD11 := Lib.hid hD11; clear hD11
            have HNS11 := Lib.hid hns11; clear hns11
            have HBW' := Lib.hid (bel_trans HBW.out hb)
            have HX' := Lib.hid (HX.out.bel hb)
            clear HBW HX
            have HBW := HBW'
            have HX := HX'
            clear HBW' HX' hb
            clear p0 p1 p2 p3 p4 p5
            obtain ⟨p0, p1, p2, p3, p4, p5⟩ := pcells HX.out
            go_wp2_with fail
            go_fit (lists21_any _ _ _ _ _ _ (compsL p) (compsL p) _ HC11.out HD11.out); rintro e v3 ⟨rfl, hb⟩
            rw [show decide (compsL p = compsL p) = true from by simp]
            have hU12 := HU11.out.ext hb
            have hY12 := HY11.out.ext hb
            have hns12 := HNS11.out.ext hb
            have HU12 := Lib.hid hU12; clear hU12
            have HY12 := Lib.hid hY12; clear hY12
            have HNS12 := Lib.hid hns12; clear hns12
            have HBW' := Lib.hid (bel_trans HBW.out hb)
            have HX' := Lib.hid (HX.out.bel hb)
            clear HBW HX
            have HBW := HBW'
            have HX := HX'
            clear HBW' HX' hb
            clear p0 p1 p2 p3 p4 p5
            obtain ⟨p0, p1, p2, p3, p4, p5⟩ := pcells HX.out
            go_wp2_with fail
            go_fit (lawInts_any _ _ _ _ _ _ (numsL p) (numsL p) _ HU12.out HNS12.out); rintro e v4 ⟨rfl, hb⟩
            rw [show decide (numsL p = numsL p) = true from by simp]
            have hY13 := HY12.out.ext hb
            have HY13 := Lib.hid hY13; clear hY13
            have HBW' := Lib.hid (bel_trans HBW.out hb)
            have HX' := Lib.hid (HX.out.bel hb)
            clear HBW HX
            have HBW := HBW'
            have HX := HX'
            clear HBW' HX' hb
            clear p0 p1 p2 p3 p4 p5
            obtain ⟨p0, p1, p2, p3, p4, p5⟩ := pcells HX.out
            go_wp2_with fail
            go_fit (RT.out _ HBW.out); rintro e v5 ⟨rfl, hb⟩
            have hY14 := HY13.out.ext hb
            have HY14 := Lib.hid hY14; clear hY14
            have HBW' := Lib.hid (bel_trans HBW.out hb)
            have HX' := Lib.hid (HX.out.bel hb)
            clear HBW HX
            have HBW := HBW'
            have HX := HX'
            clear HBW' HX' hb
            clear p0 p1 p2 p3 p4 p5
            obtain ⟨p0, p1, p2, p3, p4, p5⟩ := pcells HX.out
            go_wp2_with fail
            go_fit (RH.out _ HBW.out); rintro e v6 ⟨rfl, hb⟩
            have hY15 := HY14.out.ext hb
            have HY15 := Lib.hid hY15; clear hY15
            have HBW' := Lib.hid (bel_trans HBW.out hb)
            have HX' := Lib.hid (HX.out.bel hb)
            clear HBW HX
            have HBW := HBW'
            have HX := HX'
            clear HBW' HX' hb
            clear p0 p1 p2 p3 p4 p5
            obtain ⟨p0, p1, p2, p3, p4, p5⟩ := pcells HX.out
            go_wp2_with fail
            go_fit (RY.out _ HBW.out); rintro e v7 ⟨zA, zl, zc, rfl, hz, hb⟩
            have hY16 := HY15.out.ext hb
            have HY16 := Lib.hid hY16; clear hY16
            have HZ := Lib.hid hz; clear hz
            have HBW' := Lib.hid (bel_trans HBW.out hb)
            have HX' := Lib.hid (HX.out.bel hb)
            clear HBW HX
            have HBW := HBW'
            have HX := HX'
            clear HBW' HX' hb
            clear p0 p1 p2 p3 p4 p5
            obtain ⟨p0, p1, p2, p3, p4, p5⟩ := pcells HX.out
            go_wp2_with fail
            go_fit (lawInts_any _ _ _ _ _ _ (cycL p) (cycL p) _ HY16.out HZ.out); rintro e v8 ⟨rfl, hb⟩
            rw [show decide (cycL p = cycL p) = true from by simp]
            have HBW' := Lib.hid (bel_trans HBW.out hb)
            have HX' := Lib.hid (HX.out.bel hb)
            clear HBW HX
            have HBW := HBW'
            have HX := HX'
            clear HBW' HX' hb
            clear p0 p1 p2 p3 p4 p5
            obtain ⟨p0, p1, p2, p3, p4, p5⟩ := pcells HX.out
            go_wp2_with fail
            go_fit (CA.out _); rintro e wz ⟨rfl, hbz⟩
            have HB3 := Lib.hid (bel_trans HBW.out hbz)
            clear hbz
            go_wp2_with fail
            go_ret
            exact ⟨rfl, HB3.out⟩
      · have hvz : (validE p != 0) = true := by simp [hv]
        have hvz2 : (validE p == 0) = false := by simp [hv]
        have hqm := wrongs p nA nl nc sA sl sc rA rl rc mA ml mc w hp hv
        generalize validE p = v at *
        have HP := Lib.hid hp; clear hp
        have CF := Lib.hid cF; clear cF
        have CA := Lib.hid cA; clear cA
        have HX0 := Lib.hid hx0; clear hx0
        have HQ := Lib.hid hq; clear hq
        have HPN := Lib.hid hpn; clear hpn
        have CV := Lib.hid cV; clear cV
        have HQM := Lib.hid hqm; clear hqm
        go_enter Try.func3, Try.ntmps3
        go_wp2_with fail
        go_fit (CF.out _ (bel_alloc _ _)); rintro e w1 ⟨rfl, hb1⟩
        have HBW := Lib.hid (bel_trans (bel_alloc _ _) hb1)
        have HX := Lib.hid (HX0.out.bel hb1)
        clear hb1
        obtain ⟨p0, p1, p2, p3, p4, p5⟩ := pcells HX.out
        go_wp2_with fail
        go_fit (HQM.out.ed _ HBW.out); rintro e w2 ⟨rfl, hb⟩
        have HBW' := Lib.hid (bel_trans HBW.out hb)
        have HX' := Lib.hid (HX.out.bel hb)
        clear HBW HX
        have HBW := HBW'
        have HX := HX'
        clear HBW' HX' hb
        clear p0 p1 p2 p3 p4 p5
        obtain ⟨p0, p1, p2, p3, p4, p5⟩ := pcells HX.out
        go_wp2_with fail
        go_fit (HQM.out.co _ HBW.out); rintro e w3 ⟨rfl, hb⟩
        have HBW' := Lib.hid (bel_trans HBW.out hb)
        have HX' := Lib.hid (HX.out.bel hb)
        clear HBW HX
        have HBW := HBW'
        have HX := HX'
        clear HBW' HX' hb
        clear p0 p1 p2 p3 p4 p5
        obtain ⟨p0, p1, p2, p3, p4, p5⟩ := pcells HX.out
        go_wp2_with fail
        go_fit (HQM.out.nu _ HBW.out); rintro e w4 ⟨rfl, hb⟩
        have HBW' := Lib.hid (bel_trans HBW.out hb)
        have HX' := Lib.hid (HX.out.bel hb)
        clear HBW HX
        have HBW := HBW'
        have HX := HX'
        clear HBW' HX' hb
        clear p0 p1 p2 p3 p4 p5
        obtain ⟨p0, p1, p2, p3, p4, p5⟩ := pcells HX.out
        go_wp2_with fail
        go_fit (HQM.out.ti _ HBW.out); rintro e w5 ⟨rfl, hb⟩
        have HBW' := Lib.hid (bel_trans HBW.out hb)
        have HX' := Lib.hid (HX.out.bel hb)
        clear HBW HX
        have HBW := HBW'
        have HX := HX'
        clear HBW' HX' hb
        clear p0 p1 p2 p3 p4 p5
        obtain ⟨p0, p1, p2, p3, p4, p5⟩ := pcells HX.out
        go_wp2_with fail
        go_fit (HQM.out.fr _ HBW.out); rintro e w6 ⟨rfl, hb⟩
        have HBW' := Lib.hid (bel_trans HBW.out hb)
        have HX' := Lib.hid (HX.out.bel hb)
        clear HBW HX
        have HBW := HBW'
        have HX := HX'
        clear HBW' HX' hb
        clear p0 p1 p2 p3 p4 p5
        obtain ⟨p0, p1, p2, p3, p4, p5⟩ := pcells HX.out
        go_wp2_with fail
        go_fit (HQM.out.cy _ HBW.out); rintro e w7 ⟨rfl, hb⟩
        have HBW' := Lib.hid (bel_trans HBW.out hb)
        have HX' := Lib.hid (HX.out.bel hb)
        clear HBW HX
        have HBW := HBW'
        have HX := HX'
        clear HBW' HX' hb
        clear p0 p1 p2 p3 p4 p5
        obtain ⟨p0, p1, p2, p3, p4, p5⟩ := pcells HX.out
        go_wp2_with fail
        go_fit (CV.out _ HBW.out); rintro e w8 ⟨rfl, hb⟩
        have HBW' := Lib.hid (bel_trans HBW.out hb)
        have HX' := Lib.hid (HX.out.bel hb)
        clear HBW HX
        have HBW := HBW'
        have HX := HX'
        clear HBW' HX' hb
        clear p0 p1 p2 p3 p4 p5
        obtain ⟨p0, p1, p2, p3, p4, p5⟩ := pcells HX.out
        go_wp2_with fail
        go_fit (CA.out _); rintro e wz ⟨rfl, hbz⟩
        have HB3 := Lib.hid (bel_trans HBW.out hbz)
        clear hbz
        go_wp2_with fail
        go_ret
        exact ⟨rfl, HB3.out⟩
end Go.Proofs.Ytbfbkpoakmnlpaa

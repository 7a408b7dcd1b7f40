/- Contracts of the reference: times, Occur. -/
import Derived.Test.YtkofkkfjlccjkaaGreatRfm
import Derived.Test.YtkofkkfjlccjkaaGreatSrw
namespace Go.Proofs.YtkofkkfjlccjkaaGreat
open Go.RowKit

theorem timesN_cons (m : List Int) (r : List (List Int)) (x : Int) : timesN (m :: r) x = (if x ∈ m then 1 else 0) + timesN r x := by
  unfold timesN
  rw [List.filter_cons]
  by_cases h : x ∈ m
  · simp [h]; omega
  · simp [h]
theorem timesN_le (l : List (List Int)) (x : Int) : timesN l x ≤ l.length := List.length_filter_le _ _
set_option maxRecDepth 100000 in
set_option maxHeartbeats 1000000 in
theorem refTimes_any (lA : Option Addr) (ll lc : Nat) (ls : List (List Int)) (x : Int) (w : World) (h : SlIs (slR intR) w lA ll lc ls) :
    Calls Tryz.prog 66 #[.slice lA ll lc, .int .i64 x] w fun e w' => e = .returned (.int .i64 (timesN ls x : Int)) ∧ w = w' := by
  have hlc := h.cap
  have hlm := h.max
  have hsm := h.small
  have H := Lib.hid h; clear h
  go_enter Tryz.func66, Tryz.ntmps66
  go_wp2_with fail
  go_loop [5, 6] (fun n i => ∃ (k q : Nat), k ≤ ll ∧ i = .int .i64 (k : Int) ∧ n = .int .i64 (q : Int) ∧ q ≤ k ∧ timesN ls x = q + timesN (ls.drop k) x) (fun _ i => ll - (intOf i).toNat)
  case atStart => exact ⟨0, 0, Nat.zero_le _, rfl, rfl, Nat.le_refl _, by simp⟩
  case round =>
    obtain ⟨k, q, hk, rfl, rfl, hq, hs⟩ := hrel
    by_cases hlt : k < ll
    · obtain ⟨m, hx, hd⟩ := H.out.drop hlt
      obtain ⟨b, off, sA, sl, sc, rfl, _, hcell, hsl⟩ := H.out.set hx
      rw [hd, timesN_cons] at hs
      have c := refIn_any sA sl sc m x w hsl
      by_cases hm : x ∈ m
      · rw [decide_eq_true hm] at c
        rw [if_pos hm] at hs
        have HS := Lib.hid hs; clear hs
        have HX := Lib.hid hx; clear hx
        have HD := Lib.hid hd; clear hd
        have C := Lib.hid c; clear c
        have HSL := Lib.hid hsl; clear hsl
        have HM := Lib.hid hm; clear hm
        go_wp2_with fail
        go_fit C.out; rintro e w' ⟨rfl, rfl⟩
        go_wp2_with fail
        go_round
        case rel => exact ⟨k + 1, q + 1, by omega, by go_num, by go_num, by omega, by rw [HS.out]; omega⟩
        case measure => simp [intOf]; omega
      · rw [decide_eq_false hm] at c
        rw [if_neg hm] at hs
        have HS := Lib.hid hs; clear hs
        have HX := Lib.hid hx; clear hx
        have HD := Lib.hid hd; clear hd
        have C := Lib.hid c; clear c
        have HSL := Lib.hid hsl; clear hsl
        have HM := Lib.hid hm; clear hm
        go_wp2_with fail
        go_fit C.out; rintro e w' ⟨rfl, rfl⟩
        go_wp2_with fail
        go_round
        case rel => exact ⟨k + 1, q, by omega, by go_num, rfl, by omega, by rw [HS.out]; omega⟩
        case measure => simp [intOf]; omega
    · rw [H.out.stop (show ll ≤ k by omega), show timesN [] x = 0 from rfl] at hs
      have HS := Lib.hid hs; clear hs
      go_wp2_with fail
      go_ret
      exact ⟨ret_int (by rw [HS.out]; rfl), rfl⟩

/-- What is still to be placed. -/
def restI (p : Bool) (x : Int) (ys : List Int) : List Int := if p then ys else insI x ys
theorem restI_t (x y : Int) (r : List Int) : restI true x (y :: r) = [y] ++ restI true x r := rfl
theorem restI_lt {x y : Int} (r : List Int) (h : x < y) : restI false x (y :: r) = [x, y] ++ restI true x r := by
  show insI x (y :: r) = _
  unfold insI; rw [if_pos h]; rfl
theorem restI_ge {x y : Int} (r : List Int) (h : ¬ x < y) : restI false x (y :: r) = [y] ++ restI false x r := by
  show insI x (y :: r) = _
  rw [insI, if_neg h]; rfl
theorem insI_len (x : Int) : ∀ ys : List Int, (insI x ys).length = ys.length + 1
  | [] => rfl
  | y :: r => by unfold insI; split <;> simp [insI_len x r]
theorem memI {ns : List Int} {z : Int} (h : ∀ y ∈ ns, I64 y) (hz : I64 z) : ∀ y ∈ ns ++ [z], I64 y := fun y hy => by
  rcases List.mem_append.1 hy with hy | hy
  · exact h y hy
  · simp at hy; subst hy; exact hz
set_option maxRecDepth 100000 in
set_option maxHeartbeats 4000000 in
theorem refOccur_any (lA : Option Addr) (ll lc : Nat) (ls : List (List Int)) (least : Int) (w : World) (h : SlIs (slR intR) w lA ll lc ls) (h8 : ll ≤ 8) (h88 : ∀ s ∈ ls, s.length ≤ 8) (hl64 : I64 least) :
    Calls Tryz.prog 33 #[.slice lA ll lc, .int .i64 least] w fun e w' => ∃ A l c, e = .returned (.slice A l c) ∧ SlIs intR w' A l c (occL ls least) ∧ Below w.heap.size w w' := by
  have hlc := h.cap
  have hlm := h.max
  have hsm := h.small
  have hocc : occL ls least = ls.flatten.foldl (occS ls least) [] := rfl
  have H := Lib.hid h; clear h
  have H88 := Lib.hid h88; clear h88
  have HL64 := Lib.hid hl64; clear hl64
  have HOCC := Lib.hid hocc; clear hocc
  go_enter Tryz.func33, Tryz.ntmps33
  go_wp2_with fail
  go_loopw [5, 6] (fun v t wr => ∃ (i lv : Nat) (A : Option Addr) (c : Nat) (ys : List Int), i ≤ ll ∧ t = .int .i64 (i : Int) ∧ v = .slice A lv c ∧ SlIs intR wr A lv c ys ∧ lv ≤ 8 * i ∧ Below w.heap.size w wr ∧ occL ls least = (ls.drop i).flatten.foldl (occS ls least) ys) (fun _ t _ => ll - (intOf t).toNat)
  case atStart => exact ⟨0, 0, none, 0, [], Nat.zero_le _, rfl, rfl, SlIs.nil _ _, by omega, Below.refl _ _, HOCC.out⟩
  case round =>
    obtain ⟨i, lv, A, c, ys, hi, rfl, rfl, hv, hlv, hbw, hs⟩ := hrel
    obtain ⟨wo, rfl⟩ : ∃ wo : World, wo = wr := ⟨_, rfl⟩
    have H1 := Lib.hid (H.out.ext hbw)
    by_cases hlt : i < ll
    · obtain ⟨m, hx, hd⟩ := H.out.drop hlt
      obtain ⟨b, off, sA, sl, sc, rfl, hbl, hcell, hsl⟩ := H1.out.set hx
      have hm8 := H88.out m (List.mem_of_getElem? hx)
      rw [← hsl.len] at hm8
      rw [hd, List.flatten_cons, List.foldl_append] at hs
      have hslc := hsl.cap
      have hslm := hsl.max
      have i0 : (0 : Int) ≤ (i : Int) := by omega
      have i1 : (i : Int) < (ll : Int) := by omega
      have HSL := Lib.hid hsl
      have HC := Lib.hid hcell
      have HBWO := Lib.hid hbw
      have HX := Lib.hid hx; clear hx
      have HD := Lib.hid hd; clear hd
      have HS := Lib.hid hs; clear hs
      have HV := Lib.hid hv; clear hv
      clear hsl hcell hbw
      go_wp2_with fail
      go_loopw [5, 7] (fun v t wr => ∃ (k lv' : Nat) (A' : Option Addr) (c' : Nat) (zs : List Int), k ≤ sl ∧ t = .int .i64 (k : Int) ∧ v = .slice A' lv' c' ∧ SlIs intR wr A' lv' c' zs ∧ lv' ≤ 8 * i + k ∧ Below wo.heap.size wo wr ∧ occL ls least = (ls.drop (i + 1)).flatten.foldl (occS ls least) ((m.drop k).foldl (occS ls least) zs)) (fun _ t _ => sl - (intOf t).toNat)
      case atStart => exact ⟨0, lv, A, c, ys, Nat.zero_le _, rfl, rfl, HV.out, by omega, Below.refl _ _, HS.out⟩
      case round =>
        obtain ⟨k, lv2, A2, c2, zs, hk, rfl, rfl, hv2, hlv2, hbw2, hs2⟩ := hrel
        have hbw3 := bel_trans HBWO.out hbw2
        have hc2 := (hbw2.cell (p := ⟨b, off + i, none⟩) hbl).trans HC.out
        have hsl2 := HSL.out.ext hbw2
        have hv2c := hv2.cap
        have hv2m := hv2.max
        by_cases hlt2 : k < sl
        · obtain ⟨x, hx2, hd2⟩ := HSL.out.drop hlt2
          obtain ⟨b2, o2, rfl, _, cx, hx64⟩ := hsl2.int hx2
          rw [hd2, List.foldl_cons] at hs2
          have k0 : (0 : Int) ≤ (k : Int) := by omega
          have k1 : (k : Int) < (sl : Int) := by omega
          have cT := refTimes_any _ ll lc ls x wr (H.out.ext hbw3)
          have cI := refIn_any A2 lv2 c2 zs x wr hv2
          obtain ⟨tn, htn⟩ : ∃ tn, tn = timesN ls x := ⟨_, rfl⟩
          have hocS : occS ls least zs x = if (tn : Int) < least ∨ x ∈ zs then zs else insI x zs := by rw [htn]; rfl
          rw [← htn] at cT
          have htl := timesN_le ls x
          rw [← htn, ← H.out.len] at htl
          by_cases h1 : (tn : Int) < least
          · rw [hocS, if_pos (.inl h1)] at hs2
            have HV2 := Lib.hid hv2; clear hv2
            have HBW2 := Lib.hid hbw2; clear hbw2
            have HBW3 := Lib.hid hbw3; clear hbw3
            have HS2 := Lib.hid hs2; clear hs2
            have HX2 := Lib.hid hx2; clear hx2
            have HD2 := Lib.hid hd2; clear hd2
            have HX64 := Lib.hid hx64; clear hx64
            have HSL2 := Lib.hid hsl2; clear hsl2
            have CT := Lib.hid cT; clear cT
            have CI := Lib.hid cI; clear cI
            have HTN := Lib.hid htn; clear htn
            have HOCS := Lib.hid hocS; clear hocS
            go_wp2_with fail
            go_fit CT.out; rintro e w' ⟨rfl, rfl⟩
            go_wp2_with fail
            go_roundw
            case rel => exact ⟨k + 1, _, _, _, zs, by omega, by go_num, rfl, HV2.out, by omega, HBW2.out, HS2.out⟩
            case measure => simp [intOf]; omega
          · by_cases h2 : x ∈ zs
            · rw [hocS, if_pos (.inr h2)] at hs2
              rw [decide_eq_true h2] at cI
              have HV2 := Lib.hid hv2; clear hv2
              have HBW2 := Lib.hid hbw2; clear hbw2
              have HBW3 := Lib.hid hbw3; clear hbw3
              have HS2 := Lib.hid hs2; clear hs2
              have HX2 := Lib.hid hx2; clear hx2
              have HD2 := Lib.hid hd2; clear hd2
              have HX64 := Lib.hid hx64; clear hx64
              have HSL2 := Lib.hid hsl2; clear hsl2
              have CT := Lib.hid cT; clear cT
              have CI := Lib.hid cI; clear cI
              have HTN := Lib.hid htn; clear htn
              have HOCS := Lib.hid hocS; clear hocS
              have H2 := Lib.hid h2; clear h2
              go_wp2_with fail
              go_fit CT.out; rintro e w' ⟨rfl, rfl⟩
              go_wp2_with fail
              go_fit CI.out; rintro e w' ⟨rfl, rfl⟩
              go_wp2_with fail
              go_roundw
              case rel => exact ⟨k + 1, _, _, _, zs, by omega, by go_num, rfl, HV2.out, by omega, HBW2.out, HS2.out⟩
              case measure => simp [intOf]; omega
            · rw [hocS, if_neg (by rintro (h | h); exact h1 h; exact h2 h)] at hs2
              rw [decide_eq_false h2] at cI
              have HV2 := Lib.hid hv2; clear hv2
              have HBW2 := Lib.hid hbw2; clear hbw2
              have HBW3 := Lib.hid hbw3; clear hbw3
              have HS2 := Lib.hid hs2; clear hs2
              have HX2 := Lib.hid hx2; clear hx2
              have HD2 := Lib.hid hd2; clear hd2
              have HX64 := Lib.hid hx64; clear hx64
              have HSL2 := Lib.hid hsl2; clear hsl2
              have CT := Lib.hid cT; clear cT
              have CI := Lib.hid cI; clear cI
              have HTN := Lib.hid htn; clear htn
              have HOCS := Lib.hid hocS; clear hocS
              have H2 := Lib.hid h2; clear h2
              go_wp2_with fail
              go_fit CT.out; rintro e w' ⟨rfl, rfl⟩
              go_wp2_with fail
              go_fit CI.out; rintro e w' ⟨rfl, rfl⟩
              go_wp2_with fail
              obtain ⟨wm, rfl⟩ : ∃ wm : World, wm = wr := ⟨_, rfl⟩
              go_loopw [9, 10, 11] (fun nv pv t wr => ∃ (j ln : Nat) (p : Bool) (ns : List Int), j ≤ lv2 ∧ t = .int .i64 (j : Int) ∧ (p = true ∧ pv = .int .i64 1 ∨ p = false ∧ pv = .int .i64 0) ∧ OwnI wr wm.heap.size nv ln ns ∧ (∀ y ∈ ns, I64 y) ∧ Below wm.heap.size wm wr ∧ insI x zs = ns ++ restI p x (zs.drop j)) (fun _ _ t _ => lv2 - (intOf t).toNat)
              case atStart => exact ⟨0, 0, false, [], Nat.zero_le _, rfl, .inr ⟨rfl, rfl⟩, OwnI.nil _ _, by simp, Below.refl _ _, rfl⟩
              case round =>
                obtain ⟨j, ln, p, ns, hj, rfl, hp, ho, hns, hbw4, hs3⟩ := hrel
                have hsz4 := hbw4.size
                have hln : ln ≤ lv2 + 1 := by
                  have h5 := congrArg List.length hs3
                  rw [insI_len, List.length_append, ← ho.len, ← HV2.out.len] at h5
                  omega
                by_cases hlt3 : j < lv2
                · obtain ⟨y, hy, hd3⟩ := HV2.out.drop hlt3
                  obtain ⟨b3, o3, rfl, hb3l, cy0, hy64⟩ := HV2.out.int hy
                  have cy := (hbw4.cell (p := ⟨b3, o3 + j, none⟩) hb3l).trans cy0
                  have j0 : (0 : Int) ≤ (j : Int) := by omega
                  have j1 : (j : Int) < (lv2 : Int) := by omega
                  rw [hd3] at hs3
                  rcases hp with ⟨rfl, rfl⟩ | ⟨rfl, rfl⟩
                  · rw [restI_t, ← List.append_assoc] at hs3
                    obtain ⟨v1, w3, hrun, own1, hg1, hat1⟩ := app1 ho y (by omega) hsz4 23
                    have hb5 := bel_grown hbw4 hg1 hsz4 (fun z hz => (ho.2.lt z hz).1)
                    have HO := Lib.hid ho; clear ho
                    have HNS := Lib.hid hns; clear hns
                    have HBW4 := Lib.hid hbw4; clear hbw4
                    have HS3 := Lib.hid hs3; clear hs3
                    have HY := Lib.hid hy; clear hy
                    have HD3 := Lib.hid hd3; clear hd3
                    have HY64 := Lib.hid hy64; clear hy64
                    have CY0 := Lib.hid cy0; clear cy0
                    have HRUN := Lib.hid hrun; clear hrun
                    have OWN1 := Lib.hid own1; clear own1
                    have HG1 := Lib.hid hg1; clear hg1
                    have HAT1 := Lib.hid hat1; clear hat1
                    have HB5 := Lib.hid hb5; clear hb5
                    go_wp2_with (at_builtin; refine wpList_append_run rfl _ _ _ rfl _ _ rfl rfl _ _ HRUN.out ?_)
                    go_roundw
                    case rel => exact ⟨j + 1, _, true, _, by omega, by go_num, .inl ⟨rfl, rfl⟩, OWN1.out, memI HNS.out HY64.out, HB5.out, HS3.out⟩
                    case measure => simp [intOf]; omega
                  · by_cases hxy : x < y
                    · rw [restI_lt _ hxy, ← List.append_assoc, show ns ++ [x, y] = (ns ++ [x]) ++ [y] by simp] at hs3
                      obtain ⟨v1, w3, hrun, own1, hg1, hat1⟩ := app1 ho x (by omega) hsz4 23
                      have hb5 := bel_grown hbw4 hg1 hsz4 (fun z hz => (ho.2.lt z hz).1)
                      have cy3 := (hb5.cell (p := ⟨b3, o3 + j, none⟩) hb3l).trans cy0
                      obtain ⟨v2, w4, hrun2, own2, hg2, hat2⟩ := app1 own1 y (by omega) hb5.size 23
                      have hb6 := bel_grown hb5 hg2 hb5.size (fun z hz => (own1.2.lt z hz).1)
                      have HO := Lib.hid ho; clear ho
                      have HNS := Lib.hid hns; clear hns
                      have HBW4 := Lib.hid hbw4; clear hbw4
                      have HS3 := Lib.hid hs3; clear hs3
                      have HY := Lib.hid hy; clear hy
                      have HD3 := Lib.hid hd3; clear hd3
                      have HY64 := Lib.hid hy64; clear hy64
                      have CY0 := Lib.hid cy0; clear cy0
                      have HRUN := Lib.hid hrun; clear hrun
                      have OWN1 := Lib.hid own1; clear own1
                      have HG1 := Lib.hid hg1; clear hg1
                      have HAT1 := Lib.hid hat1; clear hat1
                      have HB5 := Lib.hid hb5; clear hb5
                      have HRUN2 := Lib.hid hrun2; clear hrun2
                      have OWN2 := Lib.hid own2; clear own2
                      have HG2 := Lib.hid hg2; clear hg2
                      have HAT2 := Lib.hid hat2; clear hat2
                      have HB6 := Lib.hid hb6; clear hb6
                      go_wp2_with (at_builtin; first | refine wpList_append_run rfl _ _ _ rfl _ _ rfl rfl _ _ HRUN.out ?_ | refine wpList_append_run rfl _ _ _ rfl _ _ rfl rfl _ _ HRUN2.out ?_)
                      go_roundw
                      case rel => exact ⟨j + 1, _, true, _, by omega, by go_num, .inl ⟨rfl, rfl⟩, OWN2.out, memI (memI HNS.out HX64.out) HY64.out, HB6.out, HS3.out⟩
                      case measure => simp [intOf]; omega
                    · rw [restI_ge _ hxy, ← List.append_assoc] at hs3
                      obtain ⟨v1, w3, hrun, own1, hg1, hat1⟩ := app1 ho y (by omega) hsz4 23
                      have hb5 := bel_grown hbw4 hg1 hsz4 (fun z hz => (ho.2.lt z hz).1)
                      have HO := Lib.hid ho; clear ho
                      have HNS := Lib.hid hns; clear hns
                      have HBW4 := Lib.hid hbw4; clear hbw4
                      have HS3 := Lib.hid hs3; clear hs3
                      have HY := Lib.hid hy; clear hy
                      have HD3 := Lib.hid hd3; clear hd3
                      have HY64 := Lib.hid hy64; clear hy64
                      have CY0 := Lib.hid cy0; clear cy0
                      have HRUN := Lib.hid hrun; clear hrun
                      have OWN1 := Lib.hid own1; clear own1
                      have HG1 := Lib.hid hg1; clear hg1
                      have HAT1 := Lib.hid hat1; clear hat1
                      have HB5 := Lib.hid hb5; clear hb5
                      go_wp2_with (at_builtin; refine wpList_append_run rfl _ _ _ rfl _ _ rfl rfl _ _ HRUN.out ?_)
                      go_roundw
                      case rel => exact ⟨j + 1, _, false, _, by omega, by go_num, .inr ⟨rfl, rfl⟩, OWN1.out, memI HNS.out HY64.out, HB5.out, HS3.out⟩
                      case measure => simp [intOf]; omega
                · rw [HV2.out.stop (show lv2 ≤ j by omega)] at hs3
                  rcases hp with ⟨rfl, rfl⟩ | ⟨rfl, rfl⟩
                  · rw [show restI true x [] = [] from rfl, List.append_nil] at hs3
                    obtain ⟨vA, vc, rfl, hsv⟩ := ho.sl (by omega) hns
                    rw [← hs3] at hsv
                    have hbe := bel_trans HBW2.out hbw4
                    have hll : ln ≤ 8 * i + (k + 1) := by omega
                    have HO := Lib.hid ho; clear ho
                    have HNS := Lib.hid hns; clear hns
                    have HBW4 := Lib.hid hbw4; clear hbw4
                    have HS3 := Lib.hid hs3; clear hs3
                    have HSV := Lib.hid hsv; clear hsv
                    have HBE := Lib.hid hbe; clear hbe
                    go_wp2_with fail
                    go_roundw
                    case rel => exact ⟨k + 1, _, _, _, _, by omega, by go_num, rfl, HSV.out, hll, HBE.out, HS2.out⟩
                    case measure => simp [intOf]; omega
                  · rw [show restI false x [] = [x] from rfl] at hs3
                    obtain ⟨v1, w3, hrun, own1, hg1, hat1⟩ := app1 ho x (by omega) hsz4 23
                    have hb5 := bel_grown hbw4 hg1 hsz4 (fun z hz => (ho.2.lt z hz).1)
                    have hln2 : ln + 1 ≤ lv2 + 1 := by
                      have h5 := congrArg List.length hs3
                      rw [insI_len, List.length_append, ← ho.len, ← HV2.out.len] at h5
                      simp at h5; omega
                    obtain ⟨vA, vc, rfl, hsv⟩ := own1.sl (by omega) (memI hns HX64.out)
                    rw [← hs3] at hsv
                    have hbe := bel_trans HBW2.out hb5
                    have hll : ln + 1 ≤ 8 * i + (k + 1) := by omega
                    have HO := Lib.hid ho; clear ho
                    have HNS := Lib.hid hns; clear hns
                    have HBW4 := Lib.hid hbw4; clear hbw4
                    have HS3 := Lib.hid hs3; clear hs3
                    have HSV := Lib.hid hsv; clear hsv
                    have HBE := Lib.hid hbe; clear hbe
                    have HRUN := Lib.hid hrun; clear hrun
                    have OWN1 := Lib.hid own1; clear own1
                    have HG1 := Lib.hid hg1; clear hg1
                    have HAT1 := Lib.hid hat1; clear hat1
                    have HB5 := Lib.hid hb5; clear hb5
                    go_wp2_with (at_builtin; refine wpList_append_run rfl _ _ _ rfl _ _ rfl rfl _ _ HRUN.out ?_)
                    go_roundw
                    case rel => exact ⟨k + 1, _, _, _, _, by omega, by go_num, rfl, HSV.out, hll, HBE.out, HS2.out⟩
                    case measure => simp [intOf]; omega
        · rw [HSL.out.stop (show sl ≤ k by omega), List.foldl_nil] at hs2
          have HV2 := Lib.hid hv2; clear hv2
          have HBW2 := Lib.hid hbw2; clear hbw2
          have HBW3 := Lib.hid hbw3; clear hbw3
          have HS2 := Lib.hid hs2; clear hs2
          have HSL2 := Lib.hid hsl2; clear hsl2
          go_wp2_with fail
          go_roundw
          case rel => exact ⟨i + 1, _, _, _, _, by omega, by go_num, rfl, HV2.out, by omega, HBW3.out, HS2.out⟩
          case measure => simp [intOf]; omega
    · rw [H.out.stop (show ll ≤ i by omega)] at hs
      have HBW := Lib.hid hbw; clear hbw
      have HS := Lib.hid hs; clear hs
      have HV := Lib.hid hv; clear hv
      go_wp2_with fail
      go_ret
      exact ⟨_, _, _, rfl, by rw [HS.out]; exact HV.out, HBW.out⟩
end Go.Proofs.YtkofkkfjlccjkaaGreat

/- Contracts: slices.Sort over the call's own ints; stable.count, Union, Common. -/
import Derived.Test.YtkofkkfjlccjkaaGreatSrti
import Derived.Test.YtkofkkfjlccjkaaGreatCmp
import Derived.Test.YtkofkkfjlccjkaaGreatRfo
import Derived.Sort.OwnSortedInts
import Derived.Shelf.Slices.In.SortNone
namespace Go.Proofs.YtkofkkfjlccjkaaGreat
open Go.RowKit Go.Shelf Go.Maps

theorem sortI_any {wr : World} {base : Nat} {v : Value} {lv : Nat} {xs : List Int} (h : OwnI wr base v lv xs) (hlv : lv ≤ 17592186044416) :
    Calls Tryz.prog 104 #[v] wr fun e w' => e = .returned (.tuple #[]) ∧ OwnI w' base v lv (xs.mergeSort fun x y => decide (x ≤ y)) ∧ wr.grownBy w' v.ownBlock := by
  obtain ⟨hl, hrow⟩ := h
  have hrow2 := hrow
  rcases hrow.2 with ⟨rfl, h0⟩ | ⟨g, cap, cur, rfl, hb, hh, hlc, hcm, hcs, htk⟩
  · have hx : xs = [] := List.eq_nil_of_length_eq_zero (by rw [← hl]; exact h0)
    subst hx
    refine (Any.slices_Sort_int_none (P := Tryz.prog) (ρ := sortI_ren) { sortI with } none 0 wr).mono ?_
    rintro e w' ⟨rfl, rfl⟩
    exact ⟨rfl, ⟨by simpa using hl, by simpa using hrow2⟩, grown_refl _ _⟩
  · subst hl
    refine (Any.slices_Sort_int (P := Tryz.prog) (ρ := sortI_ren) { sortI with } g 0 cap xs wr (holds_of_blockI hh (by simpa using htk)) (Array.getElem?_eq_some_iff.1 hh).1 (by omega)).mono ?_
    rintro e w' ⟨rfl, n, os, rfl⟩
    refine ⟨rfl, ⟨by simp, ?_⟩, grownBy_sortedI _⟩
    exact ownsRow_sortedI (by simp) hb hh hlc hcm hcs

theorem timesN_snoc (l : List (List Int)) (m : List Int) (x : Int) : timesN (l ++ [m]) x = timesN l x + (if x ∈ m then 1 else 0) := by
  unfold timesN
  rw [List.filter_append, List.length_append]
  by_cases h : x ∈ m <;> simp [h]
theorem take_snoc {α : Type} {l : List α} {k : Nat} {x : α} (h : l[k]? = some x) : l.take (k + 1) = l.take k ++ [x] := by
  rw [List.take_add_one, h]; rfl
/-- How often the numbers have been met when k numbers of m have been looked at. -/
def metF (f : Int → Int) (s : List Int) (y : Int) : Int := f y + if y ∈ s then 1 else 0
theorem metF_old {f : Int → Int} {s : List Int} {x : Int} (h : x ∈ s) (y : Int) : metF f s y = metF f (s ++ [x]) y := by
  unfold metF
  by_cases e : y = x
  · subst e; simp [h]
  · simp [e]
theorem metF_new {f : Int → Int} {s : List Int} {x : Int} (h : x ∉ s) (y : Int) : (if y = x then metF f s x + 1 else metF f s y) = metF f (s ++ [x]) y := by
  unfold metF
  by_cases e : y = x
  · subst e; simp [h]
  · simp [e]
/-- What the second map holds: nothing just where a number has not been met in this set. -/
structure OnceF (g : Int → Int) (s : List Int) (j : Nat) : Prop where
  lo : ∀ y, 0 ≤ g y
  hi : ∀ y, g y ≤ (j : Int)
  no : ∀ y, g y = 0 ↔ y ∉ s
theorem OnceF.step {g : Int → Int} {s : List Int} {j : Nat} (h : OnceF g s j) (x : Int) : OnceF (fun y => if y = x then g x + 1 else g y) (s ++ [x]) (j + 1) := by
  refine ⟨fun y => ?_, fun y => ?_, fun y => ?_⟩
  · have h1 := h.lo y; have h2 := h.lo x
    show 0 ≤ (if y = x then g x + 1 else g y)
    split <;> omega
  · have h1 := h.hi y; have h2 := h.hi x
    show (if y = x then g x + 1 else g y) ≤ ((j + 1 : Nat) : Int)
    split <;> omega
  · have h1 := h.no y; have h2 := h.lo x
    show (if y = x then g x + 1 else g y) = 0 ↔ y ∉ s ++ [x]
    by_cases e : y = x
    · subst e; rw [if_pos rfl]; simp; omega
    · rw [if_neg e, h1]; simp [e]
set_option maxRecDepth 100000 in
set_option maxHeartbeats 4000000 in
theorem count_any (lA : Option Addr) (ll lc : Nat) (ls : List (List Int)) (least : Int) (w : World) (h : SlIs (slR intR) w lA ll lc ls) (h8 : ll ≤ 8) (h88 : ∀ s ∈ ls, s.length ≤ 8) :
    Calls Tryz.prog 65 #[.slice lA ll lc, .int .i64 least] w fun e w' => ∃ A l c, e = .returned (.slice A l c) ∧ SlIs intR w' A l c (occL ls least) ∧ Below w.heap.size w w' := by
  have hlc := h.cap
  have hlm := h.max
  have hsm := h.small
  have hmm := @run_makeMap Tryz.prog
  have H := Lib.hid h; clear h
  have H88 := Lib.hid h88; clear h88
  go_enter Tryz.func65, Tryz.ntmps65
  go_wp2_with fail
  go_loopw [17] (fun t wr => ∃ (k : Nat) (f : Int → Int) (D : DataW Unit), k ≤ ll ∧ t = .int .i64 (k : Int) ∧ Below w.heap.size w wr ∧ w.heap.size < wr.heap.size ∧ CMap wr w.heap.size (8 * k) f D ∧ ∀ y, f y = (timesN (ls.take k) y : Int)) (fun t _ => ll - (intOf t).toNat)
  case atStart => exact ⟨0, _, _, Nat.zero_le _, rfl, bel_alloc _ _, by simp, CMap.new w, fun y => rfl⟩
  case round =>
    obtain ⟨k, f, D, hk, rfl, hbw, hsz, hc, hf⟩ := hrel
    by_cases hlt : k < ll
    · obtain ⟨m, hx, hd⟩ := H.out.drop hlt
      obtain ⟨b, off, sA, sl, sc, rfl, hbl, hcell0, hsl⟩ := H.out.set hx
      have hcell := (hbw.cell (p := ⟨b, off + k, none⟩) hbl).trans hcell0
      have hm8 := H88.out m (List.mem_of_getElem? hx)
      rw [← hsl.len] at hm8
      have hslc := hsl.cap
      have hslm := hsl.max
      have i0 : (0 : Int) ≤ (k : Int) := by omega
      have i1 : (k : Int) < (ll : Int) := by omega
      obtain ⟨wo, rfl⟩ : ∃ wo : World, wo = wr := ⟨_, rfl⟩
      have hbo := bel_trans hbw (bel_alloc wo (.map #[] 0))
      have hc2 := hc.bel (bel_alloc wo (.map #[] 0))
      have hf8 : ∀ y, 0 ≤ f y ∧ f y ≤ 8 := fun y => by
        have := timesN_le (ls.take k) y
        rw [List.length_take] at this
        rw [hf y]; omega
      have HX := Lib.hid hx; clear hx
      have HD := Lib.hid hd; clear hd
      have HSL := Lib.hid hsl; clear hsl
      have HBW := Lib.hid hbw; clear hbw
      have HBO := Lib.hid hbo; clear hbo
      have HC := Lib.hid hc; clear hc
      have HC2 := Lib.hid hc2; clear hc2
      have HF := Lib.hid hf; clear hf
      have HF8 := Lib.hid hf8; clear hf8
      have HCELL0 := Lib.hid hcell0; clear hcell0
      go_wp2_with fail
      go_loopw [24] (fun t wr => ∃ (j : Nat) (f' g : Int → Int) (D1 D2 : DataW Unit), j ≤ sl ∧ t = .int .i64 (j : Int) ∧ Below w.heap.size w wr ∧ wo.heap.size < wr.heap.size ∧ CMap wr w.heap.size (8 * k + j) f' D1 ∧ CMap wr wo.heap.size j g D2 ∧ (∀ y, metF f (m.take j) y = f' y) ∧ OnceF g (m.take j) j) (fun t _ => sl - (intOf t).toNat)
      case atStart => exact ⟨0, f, _, D, _, Nat.zero_le _, rfl, HBO.out, by simp, HC2.out, CMap.new wo, fun y => by simp [metF], ⟨fun _ => Int.le_refl _, fun _ => Int.le_refl _, fun _ => by simp⟩⟩
      case round =>
        obtain ⟨j, f', g, D1, D2, hj, rfl, hbw2, hsz2, hm1, hm2, hf', hg⟩ := hrel
        by_cases hlt2 : j < sl
        · obtain ⟨x, hx2, hd2⟩ := HSL.out.drop hlt2
          obtain ⟨b2, o2, rfl, _, cx, hx64⟩ := (HSL.out.ext hbw2).int hx2
          have k0 : (0 : Int) ≤ (j : Int) := by omega
          have k1 : (j : Int) < (sl : Int) := by omega
          have hts := take_snoc hx2
          have g0 := hg.lo x
          have g1 := hg.hi x
          have g2 := hg.no x
          have hlk1 := hm2.look x hx64
          obtain ⟨w1, D3, hput1, hm3, hgr1⟩ := hm2.put x hx64 (by unfold maxLen; omega) (g x + 1) (by omega) (by omega)
          have hlk2 := hm3.look x hx64
          rw [if_pos rfl] at hlk2
          have hm4 := hm1.kept hgr1 (by simp; omega)
          have hlk3 := hm4.look x hx64
          have hstep := hg.step x
          rw [← hts] at hstep
          have hbw4 := hbw2.grown hgr1 hbw2.size (fun j hj => by cases hj; omega)
          have hsz4 := hgr1.size
          by_cases hin : x ∈ m.take j
          · have e1 : (g x + 1 == 1) = false := by
              have : g x ≠ 0 := fun h => (g2.1 h) hin
              simp; omega
            have hff : ∀ y, metF f (m.take (j + 1)) y = f' y := fun y => by rw [hts, ← metF_old hin, hf']
            have hm4' := hm4.mono (n' := 8 * k + (j + 1)) (by omega)
            generalize g x = gx at *
            have HX2 := Lib.hid hx2; clear hx2
            have HD2 := Lib.hid hd2; clear hd2
            have HX64 := Lib.hid hx64; clear hx64
            have HTS := Lib.hid hts; clear hts
            have HM1 := Lib.hid hm1; clear hm1
            have HM2 := Lib.hid hm2; clear hm2
            have HM3 := Lib.hid hm3; clear hm3
            have HM4 := Lib.hid hm4; clear hm4
            have HM4' := Lib.hid hm4'; clear hm4'
            have HGR1 := Lib.hid hgr1; clear hgr1
            have HSTEP := Lib.hid hstep; clear hstep
            have HBW2 := Lib.hid hbw2; clear hbw2
            have HBW4 := Lib.hid hbw4; clear hbw4
            have HF' := Lib.hid hf'; clear hf'
            have HG := Lib.hid hg; clear hg
            have G2 := Lib.hid g2; clear g2
            have HFF := Lib.hid hff; clear hff
            have HIN := Lib.hid hin; clear hin
            go_wp2_with fail
            go_roundw
            case rel => exact ⟨j + 1, _, _, _, _, by omega, by go_num, HBW4.out, by omega, HM4'.out, HM3.out, HFF.out, HSTEP.out⟩
            case measure => simp [intOf]; omega
          · have e0 : g x = 0 := g2.2 hin
            have e01 : g x + 1 = 1 := by omega
            rw [e0] at hlk1
            rw [e01] at hput1 hlk2
            have hfx : f' x = f x := by rw [← hf' x]; unfold metF; rw [if_neg hin]; omega
            have hf1 := (HF8.out x).1
            have hf2 := (HF8.out x).2
            rw [← hfx] at hf1 hf2
            obtain ⟨w2, D4, hput2, hm5, hgr2⟩ := hm4.put x hx64 (by unfold maxLen; omega) (f' x + 1) (by omega) (by omega)
            have hm6 := hm3.kept hgr2 (by simp; omega)
            have hbw5 := hbw4.grown hgr2 hbw4.size (fun j hj => by cases hj; omega)
            have hsz5 := hgr2.size
            have hff : ∀ y, metF f (m.take (j + 1)) y = (fun y => if y = x then f' x + 1 else f' y) y := fun y => by
              rw [hts, ← metF_new hin, hf' x, hf' y]
            generalize g x = gx at *
            generalize f' x = fx at *
            have E0 := Lib.hid e0; clear e0
            have E01 := Lib.hid e01; clear e01
            have HX2 := Lib.hid hx2; clear hx2
            have HD2 := Lib.hid hd2; clear hd2
            have HX64 := Lib.hid hx64; clear hx64
            have HTS := Lib.hid hts; clear hts
            have HM1 := Lib.hid hm1; clear hm1
            have HM2 := Lib.hid hm2; clear hm2
            have HM3 := Lib.hid hm3; clear hm3
            have HM4 := Lib.hid hm4; clear hm4
            have HM5 := Lib.hid hm5; clear hm5
            have HM6 := Lib.hid hm6; clear hm6
            have HGR1 := Lib.hid hgr1; clear hgr1
            have HGR2 := Lib.hid hgr2; clear hgr2
            have HSTEP := Lib.hid hstep; clear hstep
            have HBW2 := Lib.hid hbw2; clear hbw2
            have HBW4 := Lib.hid hbw4; clear hbw4
            have HBW5 := Lib.hid hbw5; clear hbw5
            have HF' := Lib.hid hf'; clear hf'
            have HG := Lib.hid hg; clear hg
            have G2 := Lib.hid g2; clear g2
            have HFF := Lib.hid hff; clear hff
            have HIN := Lib.hid hin; clear hin
            have HFX := Lib.hid hfx; clear hfx
            go_wp2_with fail
            go_roundw
            case rel => exact ⟨j + 1, _, _, _, _, by omega, by go_num, HBW5.out, by omega, HM5.out, HM6.out, HFF.out, HSTEP.out⟩
            case measure => simp [intOf]; omega
        · have hjs : m.take j = m := List.take_of_length_le (by rw [← HSL.out.len]; omega)
          rw [hjs] at hf'
          have hff : ∀ y, f' y = (timesN (ls.take (k + 1)) y : Int) := fun y => by
            rw [← hf' y, take_snoc HX.out, timesN_snoc, metF, HF.out y]
            split <;> simp
          have hm1' := hm1.mono (n' := 8 * (k + 1)) (by omega)
          have hsz6 : w.heap.size < wr.heap.size := by omega
          have HM1 := Lib.hid hm1; clear hm1
          have HM2 := Lib.hid hm2; clear hm2
          have HM1' := Lib.hid hm1'; clear hm1'
          have HF' := Lib.hid hf'; clear hf'
          have HG := Lib.hid hg; clear hg
          have HBW2 := Lib.hid hbw2; clear hbw2
          have HFF := Lib.hid hff; clear hff
          go_wp2_with fail
          go_roundw
          case rel => exact ⟨k + 1, _, _, by omega, by go_num, HBW2.out, hsz6, HM1'.out, HFF.out⟩
          case measure => simp [intOf]; omega
    · have hkk : ls.take k = ls := List.take_of_length_le (by rw [← H.out.len]; omega)
      rw [hkk] at hf
      have hsd := hc.1.size_le
      have hown := hc.1
      obtain ⟨wn, rfl⟩ : ∃ wn : World, wn = wr := ⟨_, rfl⟩
      have HC := Lib.hid hc; clear hc
      have HF := Lib.hid hf; clear hf
      have HBW := Lib.hid hbw; clear hbw
      go_wp2_with (first
        | (at_range; refine wpList_range_own _ rfl _ 117 rfl 3 3 key_int Tryz.underlying117 _ w.heap.size _ D rfl hown ?_; intro w0 hrg0 hg0 hs0)
        | fail)
      go_frame
      have hb0 := HBW.out.grown hg0 HBW.out.size (fun j hj => by cases hj)
      have HG0 := Lib.hid hg0; clear hg0
      have HOWN := Lib.hid hown; clear hown
      have HB0 := Lib.hid hb0; clear hb0
      go_loopw [11] (fun v wq => ∃ (left : Lit → Bool) (cnt lv : Nat) (xs : List Int), wq.ranges Tryz.prog 3 (plainElem Tryz.prog 3) w.heap.size wn.heap.size (8 * k) D left cnt ∧ OwnI wq (wn.heap.size + 1) v lv xs ∧ lv + cnt ≤ size D ∧ Gat D f least left xs ∧ (∀ y ∈ xs, I64 y) ∧ wn.heap.size + 1 ≤ wq.heap.size ∧ Below w.heap.size w wq) (fun _ wq => wq.rangeLeft w.heap.size wn.heap.size)
      case atStart => exact ⟨_, _, 0, [], hrg0, OwnI.nil _ _, by omega, Gat.start, by simp, by omega, HB0.out⟩
      case round =>
        obtain ⟨left, cnt, lv, xs, hrg, ho, hlv, hgat, hxs, hszq, hbq⟩ := hrel
        have hno : ∀ q, q < wn.heap.size + 1 → some q ≠ u11.ownBlock := fun q hq e => by have := (ho.2.lt q e.symm).1; omega
        have HRG := Lib.hid hrg
        have HBQ := Lib.hid hbq; clear hbq
        have HO := Lib.hid ho; clear ho
        have HGAT := Lib.hid hgat; clear hgat
        have HXS := Lib.hid hxs; clear hxs
        go_wp2_with (first
          | (at_next; refine wpList_next_ranges_ii _ rfl _ rfl 3 3 .i64 .i64 key_int Tryz.underlying3 Tryz.underlying3 w.heap.size wn.heap.size _ _ _ _ rfl hrg ?_ ?_)
          | fail)
        · intro hc0 hl0
          have hdone := HGAT.out.done HC.out hl0
          have hperm := List.mergeSort_perm xs (fun x y => decide (x ≤ y))
          have hlt : (xs.mergeSort fun x y => decide (x ≤ y)).Pairwise (· < ·) := by
            have h1 := List.pairwise_mergeSort (le := fun x y : Int => decide (x ≤ y)) (fun a b c h1 h2 => by simp only [decide_eq_true_eq] at *; omega) (fun a b => by simp only [Bool.or_eq_true, decide_eq_true_eq]; omega) xs
            have h2 : (xs.mergeSort fun x y => decide (x ≤ y)).Nodup := hperm.nodup_iff.2 HGAT.out.nd
            refine (h1.and h2).imp ?_
            rintro a b ⟨h3, h4⟩
            simp only [decide_eq_true_eq] at h3
            omega
          have hocc := occ_of (l := ls) (least := least) hlt (fun y => by rw [hperm.mem_iff, hdone y, HF.out y]; omega)
          have cS := sortI_any HO.out (by omega)
          have hxm : ∀ y ∈ (xs.mergeSort fun x y => decide (x ≤ y)), I64 y := fun y hy => HXS.out y (hperm.mem_iff.1 hy)
          rw [hocc] at cS hxm
          have hlow : ∀ q, u11.ownBlock = some q → w.heap.size ≤ q := fun q hq => by have := (HO.out.2.lt q hq).1; omega
          clear hrg hdone hlt
          have HPERM := Lib.hid hperm; clear hperm
          have HOCC := Lib.hid hocc; clear hocc
          have CS := Lib.hid cS; clear cS
          have HXM := Lib.hid hxm; clear hxm
          have HLOW := Lib.hid hlow; clear hlow
          have HL0 := Lib.hid hl0; clear hl0
          go_wp2_with fail
          go_fit CS.out; rintro e w2 ⟨rfl, ho2, hg2⟩
          obtain ⟨vA, vc, hv, hsv⟩ := ho2.sl (by omega) HXM.out
          have hbf := HBQ.out.grown hg2 HBQ.out.size HLOW.out
          subst hv
          have HO2 := Lib.hid ho2; clear ho2
          have HG2 := Lib.hid hg2; clear hg2
          have HSV := Lib.hid hsv; clear hsv
          have HBF := Lib.hid hbf; clear hbf
          go_wp2_with fail
          go_ret
          exact ⟨_, _, _, rfl, HSV.out, HBF.out⟩
        · intro x c w1 cnt1 hwx hwc hlx hat hrg1 hlt hg1 hs1 hen
          have hx64 : I64 x := by
            simp only [Lit.wf, Bool.and_eq_true, decide_eq_true_eq] at hwx
            exact ⟨hwx.1, hwx.2⟩
          have hfc := HC.out.at_ hat
          have hhas := has_true_of_atKey hat
          have ho1 := HO.out.kept hg1 (by
            cases hv : u11.ownBlock with
            | none => exact .inl rfl
            | some q => exact .inr (by rw [← hv]; exact (hno _ (by omega)).symm))
          have hb1 := HBQ.out.grown hg1 HBQ.out.size (fun j hj => by cases hj; omega)
          have hsz1 := hg1.size
          clear hs1
          by_cases hcl : least ≤ c
          · obtain ⟨v1, w3, hrun, own1, hg3, hat3⟩ := app1 ho1 x (by omega) (by omega) 23
            have hrg3 := hrg1.kept hg3 (hno _ (by omega)) (hno _ (by omega))
            have hb3 := hb1.grown hg3 hb1.size (fun z hz => by have := (ho1.2.lt z hz).1; omega)
            have hsz3 := hg3.size
            have hgt := HGAT.out.take hlx hhas (by rw [hfc]; exact hcl)
            clear hrg
            have HRG1 := Lib.hid hrg1; clear hrg1
            have HRG3 := Lib.hid hrg3; clear hrg3
            have HG1 := Lib.hid hg1; clear hg1
            have HG3 := Lib.hid hg3; clear hg3
            have HB1 := Lib.hid hb1; clear hb1
            have HB3 := Lib.hid hb3; clear hb3
            have HGT := Lib.hid hgt; clear hgt
            have HO1 := Lib.hid ho1; clear ho1
            have OWN1 := Lib.hid own1; clear own1
            have HAT3 := Lib.hid hat3; clear hat3
            have HRUN := Lib.hid hrun; clear hrun
            have HAT := Lib.hid hat; clear hat
            have HHAS := Lib.hid hhas; clear hhas
            have HFC := Lib.hid hfc; clear hfc
            have HNO := Lib.hid hno; clear hno
            have HWX := Lib.hid hwx; clear hwx
            have HWC := Lib.hid hwc; clear hwc
            have HLX := Lib.hid hlx; clear hlx
            go_wp2_with (at_builtin; refine wpList_append_run rfl _ _ _ rfl _ _ rfl rfl _ _ HRUN.out ?_)
            go_roundw
            case rel => exact ⟨_, cnt1, lv + 1, _, HRG3.out, OWN1.out, by omega, HGT.out, memI HXS.out hx64, by omega, HB3.out⟩
            case measure => rw [HRG3.out.left_eq, HRG.out.left_eq]; exact hlt
          · have hgt := HGAT.out.pass (x := x) (by rw [hfc]; exact hcl)
            clear hrg
            have HRG1 := Lib.hid hrg1; clear hrg1
            have HG1 := Lib.hid hg1; clear hg1
            have HB1 := Lib.hid hb1; clear hb1
            have HGT := Lib.hid hgt; clear hgt
            have HO1 := Lib.hid ho1; clear ho1
            have HAT := Lib.hid hat; clear hat
            have HHAS := Lib.hid hhas; clear hhas
            have HFC := Lib.hid hfc; clear hfc
            have HNO := Lib.hid hno; clear hno
            have HWX := Lib.hid hwx; clear hwx
            have HWC := Lib.hid hwc; clear hwc
            have HLX := Lib.hid hlx; clear hlx
            go_wp2_with fail
            go_roundw
            case rel => exact ⟨_, cnt1, lv, _, HRG1.out, HO1.out, by omega, HGT.out, HXS.out, by omega, HB1.out⟩
            case measure => rw [HRG1.out.left_eq, HRG.out.left_eq]; exact hlt
set_option maxRecDepth 100000 in
set_option maxHeartbeats 1000000 in
theorem union_any (lA : Option Addr) (ll lc : Nat) (ls : List (List Int)) (w : World) (h : SlIs (slR intR) w lA ll lc ls) (h8 : ll ≤ 8) (h88 : ∀ s ∈ ls, s.length ≤ 8) :
    Calls Tryz.prog 32 #[.slice lA ll lc] w fun e w' => ∃ A l c, e = .returned (.slice A l c) ∧ SlIs intR w' A l c (occL ls 1) ∧ Below w.heap.size w w' := by
  have c := count_any lA ll lc ls 1 w h h8 h88
  have C := Lib.hid c; clear c
  have H := Lib.hid h; clear h
  go_enter Tryz.func32, Tryz.ntmps32
  go_wp2_with fail
  go_fit C.out; rintro e w1 ⟨A, l, c, rfl, hs, hb⟩
  have HS := Lib.hid hs; clear hs
  have HB := Lib.hid hb; clear hb
  go_wp2_with fail
  go_ret
  exact ⟨_, _, _, rfl, HS.out, HB.out⟩
set_option maxRecDepth 100000 in
set_option maxHeartbeats 1000000 in
theorem common_any (lA : Option Addr) (ll lc : Nat) (ls : List (List Int)) (w : World) (h : SlIs (slR intR) w lA ll lc ls) (h8 : ll ≤ 8) (h88 : ∀ s ∈ ls, s.length ≤ 8) :
    Calls Tryz.prog 34 #[.slice lA ll lc] w fun e w' => ∃ A l c, e = .returned (.slice A l c) ∧ SlIs intR w' A l c (occL ls (ll : Int)) ∧ Below w.heap.size w w' := by
  have c := count_any lA ll lc ls (ll : Int) w h h8 h88
  have hm := h.max
  have C := Lib.hid c; clear c
  have H := Lib.hid h; clear h
  go_enter Tryz.func34, Tryz.ntmps34
  go_wp2_with fail
  go_fit C.out; rintro e w1 ⟨A, l, c, rfl, hs, hb⟩
  have HS := Lib.hid hs; clear hs
  have HB := Lib.hid hb; clear hb
  go_wp2_with fail
  go_ret
  exact ⟨_, _, _, rfl, HS.out, HB.out⟩
end Go.Proofs.YtkofkkfjlccjkaaGreat

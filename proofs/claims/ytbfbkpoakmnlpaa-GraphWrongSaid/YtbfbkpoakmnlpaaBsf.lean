/- Contract: slices.BinarySearchFunc over ints. -/
import Derived.Test.YtbfbkpoakmnlpaaG3
namespace Go.Proofs.Ytbfbkpoakmnlpaa
open Go.RowKit

set_option maxRecDepth 100000 in
set_option maxHeartbeats 2000000 in
theorem bsearch_any (lA : Option Addr) (ll lc : Nat) (xs : List Int) (tg : Int) (gf : FuncId) (cap : Array Value) (cf : Int → Int) (w : World) (h : SlIs intR w lA ll lc xs) (hs : ll ≤ 1000000) (hg : ∀ args W, (callFunc gf args).run Try.prog W = .ok (.enter gf args) W)
    (hf : ∀ (W : World) (x : Int), Below w.heap.size w W → x ∈ xs → I64 x → Calls Try.prog gf (#[.int .i64 x, .int .i64 tg] ++ cap) W fun e W' => e = .returned (.int .i64 (cf x)) ∧ Below W.heap.size W W')
    (hm : ∀ (i j : Nat) x y, i ≤ j → xs[i]? = some x → xs[j]? = some y → cf y < 0 → cf x < 0) :
    Calls Try.prog 56 #[.slice lA ll lc, .int .i64 tg, .func (.func gf) #[] cap] w fun e w' => ∃ (k : Nat) (b : Bool), e = .returned (.tuple #[.int .i64 (k : Int), .bool b]) ∧ k ≤ xs.length ∧ (∀ (i : Nat) x, xs[i]? = some x → (i < k ↔ cf x < 0)) ∧ Below w.heap.size w w' := by
  have hlc := h.cap
  have hlm := h.max
  have hlen := h.len
  have H := Lib.hid h; clear h
  have HF := Lib.hid hf; clear hf
  have HM := Lib.hid hm; clear hm
  have HLEN := Lib.hid hlen; clear hlen
  go_enter Try.func56, Try.ntmps56
  go_wp2_with fail
  go_loopw [9, 10] (fun t u wr => ∃ i j : Nat, t = .int .i64 (i : Int) ∧ u = .int .i64 (j : Int) ∧ i ≤ j ∧ j ≤ ll ∧ Below w.heap.size w wr ∧ (∀ (a : Nat) x, a < i → xs[a]? = some x → cf x < 0) ∧ (∀ (a : Nat) x, j ≤ a → xs[a]? = some x → 0 ≤ cf x)) (fun t u _ => (intOf u - intOf t).toNat)
  case atStart => exact ⟨0, ll, rfl, rfl, Nat.zero_le _, Nat.le_refl _, Below.refl _ _, fun a x h => (by omega), fun a x h hx => by
    have := (List.getElem?_eq_some_iff.1 hx).1
    have := HLEN.out; omega⟩
  case round =>
    obtain ⟨i, j, rfl, rfl, hij, hjl, hbw, h1, h2⟩ := hrel
    obtain ⟨wo, rfl⟩ : ∃ wo : World, wo = wr := ⟨_, rfl⟩
    by_cases hlt : i < j
    · obtain ⟨m, hm_⟩ : ∃ m, m = (i + j) / 2 := ⟨_, rfl⟩
      have hmi : i ≤ m := by omega
      have hmj : m < j := by omega
      have t0 : (i : Int) < (j : Int) := by omega
      have em : ((i : Int) + (j : Int)) / 2 = (m : Int) := by omega
      have t1 : (0 : Int) ≤ (m : Int) := by omega
      have t2 : (m : Int) < (ll : Int) := by omega
      obtain ⟨x, hx, -⟩ := H.out.drop (k := m) (by omega)
      obtain ⟨xb, xo, rfl, lx, cx, x64⟩ := (H.out.ext hbw).int hx
      have hct := HF.out wo x hbw (List.mem_of_getElem? hx) x64
      by_cases hc : cf x < 0
      · have t3 : decide (cf x < 0) = true := decide_eq_true hc
        have h1' : ∀ (a : Nat) y, a < m + 1 → xs[a]? = some y → cf y < 0 := fun a y ha hy => HM.out a m y x (by omega) hy hx hc
        obtain ⟨z, hz⟩ : ∃ z, z = cf x := ⟨_, rfl⟩
        rw [← hz] at hct t3 hc
        have HBW := Lib.hid hbw; clear hbw
        have H1 := Lib.hid h1; clear h1
        have H2 := Lib.hid h2; clear h2
        have HM_ := Lib.hid hm_; clear hm_
        have HX := Lib.hid hx; clear hx
        have X64 := Lib.hid x64; clear x64
        have HCT := Lib.hid hct; clear hct
        have H1' := Lib.hid h1'; clear h1'
        have HZ := Lib.hid hz; clear hz
        go_wp2_with fail
        go_fit HCT.out; rintro e w1 ⟨rfl, hb1⟩
        have hb2 := bel_trans HBW.out hb1
        have HB1 := Lib.hid hb1; clear hb1
        have HB2 := Lib.hid hb2; clear hb2
        go_wp2_with fail
        go_roundw
        case rel => exact ⟨m + 1, j, by go_num, rfl, by omega, hjl, HB2.out, H1'.out, H2.out⟩
        case measure => simp [intOf]; omega
      · have t3 : decide (cf x < 0) = false := decide_eq_false hc
        have h2' : ∀ (a : Nat) y, m ≤ a → xs[a]? = some y → 0 ≤ cf y := fun a y ha hy => Int.not_lt.1 fun q => hc (HM.out m a x y ha hx hy q)
        obtain ⟨z, hz⟩ : ∃ z, z = cf x := ⟨_, rfl⟩
        rw [← hz] at hct t3 hc
        have HBW := Lib.hid hbw; clear hbw
        have H1 := Lib.hid h1; clear h1
        have H2 := Lib.hid h2; clear h2
        have HM_ := Lib.hid hm_; clear hm_
        have HX := Lib.hid hx; clear hx
        have X64 := Lib.hid x64; clear x64
        have HCT := Lib.hid hct; clear hct
        have H2' := Lib.hid h2'; clear h2'
        have HZ := Lib.hid hz; clear hz
        go_wp2_with fail
        go_fit HCT.out; rintro e w1 ⟨rfl, hb1⟩
        have hb2 := bel_trans HBW.out hb1
        have HB1 := Lib.hid hb1; clear hb1
        have HB2 := Lib.hid hb2; clear hb2
        go_wp2_with fail
        go_roundw
        case rel => exact ⟨i, m, rfl, rfl, hmi, by omega, HB2.out, H1.out, H2'.out⟩
        case measure => simp [intOf]; omega
    · obtain rfl : i = j := by omega
      have hfin : ∀ (a : Nat) y, xs[a]? = some y → (a < i ↔ cf y < 0) := fun a y hy => ⟨fun ha => h1 a y ha hy, fun hc => Classical.byContradiction fun q => by have := h2 a y (by omega) hy; omega⟩
      by_cases hil : i < ll
      · obtain ⟨x, hx, -⟩ := H.out.drop hil
        obtain ⟨xb, xo, rfl, lx, cx, x64⟩ := (H.out.ext hbw).int hx
        have hct := HF.out wo x hbw (List.mem_of_getElem? hx) x64
        have t1 : (0 : Int) ≤ (i : Int) := by omega
        have t2 : (i : Int) < (ll : Int) := by omega
        obtain ⟨z, hz⟩ : ∃ z, z = cf x := ⟨_, rfl⟩
        rw [← hz] at hct
        have HBW := Lib.hid hbw; clear hbw
        have H1 := Lib.hid h1; clear h1
        have H2 := Lib.hid h2; clear h2
        have HX := Lib.hid hx; clear hx
        have X64 := Lib.hid x64; clear x64
        have HCT := Lib.hid hct; clear hct
        have HFIN := Lib.hid hfin; clear hfin
        have HZ := Lib.hid hz; clear hz
        go_wp2_with fail
        go_fit HCT.out; rintro e w1 ⟨rfl, hb1⟩
        have hb2 := bel_trans HBW.out hb1
        have HB1 := Lib.hid hb1; clear hb1
        have HB2 := Lib.hid hb2; clear hb2
        go_wp2_with fail
        go_ret2
        have hil2 : i ≤ xs.length := by have := HLEN.out; omega
        first | exact ⟨i, _, rfl, hil2, HFIN.out, HB2.out⟩ | exact ⟨hil2, HFIN.out, HB2.out⟩
      · have HBW := Lib.hid hbw; clear hbw
        have H1 := Lib.hid h1; clear h1
        have H2 := Lib.hid h2; clear h2
        have HFIN := Lib.hid hfin; clear hfin
        go_wp2_with fail
        go_ret2
        have hil2 : i ≤ xs.length := by have := HLEN.out; omega
        first | exact ⟨i, _, rfl, hil2, HFIN.out, HBW.out⟩ | exact ⟨hil2, HFIN.out, HBW.out⟩
end Go.Proofs.Ytbfbkpoakmnlpaa

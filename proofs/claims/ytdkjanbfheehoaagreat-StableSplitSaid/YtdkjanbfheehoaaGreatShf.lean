/- Contract: the closure of StableSplit that moves literals behind the first program's atoms. -/
import Derived.Test.YtdkjanbfheehoaaGreatSpp
import Derived.Test.YtdkjanbfheehoaaGreatInv
namespace Go.Proofs.YtdkjanbfheehoaaGreat
open Go.RowKit Go.Shelf

set_option maxRecDepth 100000 in
set_option maxHeartbeats 2000000 in
theorem shf_any (a : Nat) (n k : Int) (lA : Option Addr) (ll lc : Nat) (xs : List Int) (w : World) (hbox : w.cell? ⟨a, 0, none⟩ = some (.int .i64 n)) (hn0 : 0 ≤ n) (hn : n ≤ 4000) (hk : k ≤ 4000) (hl : SlIs intR w lA ll lc xs) (hx : ∀ x ∈ xs, litB x k = true) :
    Calls Tryz.prog 7 #[.slice lA ll lc, .pointer (some ⟨a, 0, none⟩)] w fun e w' => ∃ A l' c, e = .returned (.slice A l' c) ∧ SlIs intR w' A l' c (xs.map (shF n)) ∧ l' = ll ∧ Frs w.heap.size A l' ∧ Below w.heap.size w w' := by
  have hlc := hl.cap
  have hlm := hl.max
  have hln := hl.small
  have hlen := hl.len
  have HBOX := Lib.hid hbox; clear hbox
  have HL := Lib.hid hl; clear hl
  have HX := Lib.hid hx; clear hx
  have HLEN := Lib.hid hlen; clear hlen
  go_enter Tryz.func7, Tryz.ntmps7
  go_wp2_with fail
  go_loopw [4, 9] (fun v t wr => ∃ (i : Nat), i ≤ ll ∧ t = .int .i64 (i : Int) ∧ OwnI wr w.heap.size v i ((xs.take i).map (shF n)) ∧ Below w.heap.size w wr) (fun _ t _ => ll - (intOf t).toNat)
  case atStart => exact ⟨0, Nat.zero_le _, rfl, OwnI.nil _ _, Below.refl _ _⟩
  case round =>
    obtain ⟨i, hi, rfl, ho, hb⟩ := hrel
    have hsz := hb.size
    by_cases hlt : i < ll
    · obtain ⟨x, hxi, -⟩ := HL.out.drop hlt
      obtain ⟨xb, xo, rfl, lx, cx, x64⟩ := (HL.out.ext hb).int hxi
      have hlit := litB_iff.1 (HX.out x (List.mem_of_getElem? hxi))
      have cb : wr.cell? ⟨a, 0, none⟩ = some (.int .i64 n) := (hb.cell (World.block_lt_of_cell? _ _ HBOX.out)).trans HBOX.out
      have hst : (xs.take (i + 1)).map (shF n) = (xs.take i).map (shF n) ++ [shF n x] := by rw [take_snoc' hxi, List.map_append]; rfl
      have k0 : (0 : Int) ≤ (i : Int) := by omega
      have k1 : (i : Int) < (ll : Int) := by omega
      by_cases h0 : 0 < x
      · have e1 : IntKind.i64.wrap (x + n) = x + n := IntWalk.i64_in _ (by omega)
        obtain ⟨v', w3, hrun, hown3, hg3, hat3⟩ := app1 ho (x + n) (by omega) hsz 23
        have hb3 := bel_grown hb hg3 hsz (fun q hq => (ho.2.lt q hq).1)
        rw [sh_pos (by omega)] at hst
        rw [← hst] at hown3
        have HXI := Lib.hid hxi; clear hxi
        have HO := Lib.hid ho; clear ho
        have HB := Lib.hid hb; clear hb
        have HRUN := Lib.hid hrun; clear hrun
        have HOWN3 := Lib.hid hown3; clear hown3
        have HG3 := Lib.hid hg3; clear hg3
        have HAT3 := Lib.hid hat3; clear hat3
        have HB3 := Lib.hid hb3; clear hb3
        have X64 := Lib.hid x64; clear x64
        have HST := Lib.hid hst; clear hst
        have HLIT := Lib.hid hlit; clear hlit
        go_wp2_with (at_builtin; refine wpList_append_run rfl _ _ _ rfl _ _ rfl rfl _ _ HRUN.out ?_)
        go_roundw
        case rel => exact ⟨i + 1, by omega, by go_num, HOWN3.out, HB3.out⟩
        case measure => simp [intOf]; omega
      · have e1 : IntKind.i64.wrap (x - n) = x - n := IntWalk.i64_in _ (by omega)
        obtain ⟨v', w3, hrun, hown3, hg3, hat3⟩ := app1 ho (x - n) (by omega) hsz 23
        have hb3 := bel_grown hb hg3 hsz (fun q hq => (ho.2.lt q hq).1)
        rw [sh_neg (by omega)] at hst
        rw [← hst] at hown3
        have HXI := Lib.hid hxi; clear hxi
        have HO := Lib.hid ho; clear ho
        have HB := Lib.hid hb; clear hb
        have HRUN := Lib.hid hrun; clear hrun
        have HOWN3 := Lib.hid hown3; clear hown3
        have HG3 := Lib.hid hg3; clear hg3
        have HAT3 := Lib.hid hat3; clear hat3
        have HB3 := Lib.hid hb3; clear hb3
        have X64 := Lib.hid x64; clear x64
        have HST := Lib.hid hst; clear hst
        have HLIT := Lib.hid hlit; clear hlit
        go_wp2_with (at_builtin; refine wpList_append_run rfl _ _ _ rfl _ _ rfl rfl _ _ HRUN.out ?_)
        go_roundw
        case rel => exact ⟨i + 1, by omega, by go_num, HOWN3.out, HB3.out⟩
        case measure => simp [intOf]; omega
    · have hil : i = ll := by omega
      have k1 : ¬ (i : Int) < (ll : Int) := by omega
      have htk : xs.take i = xs := List.take_of_length_le (by have := HLEN.out; omega)
      rw [htk] at ho
      obtain ⟨vA, vc, rfl, hsv⟩ := ho.sl (by omega) (fun z hz => by
        obtain ⟨x, hx, rfl⟩ := List.mem_map.1 hz
        have := litB_iff.1 (HX.out x hx)
        unfold I64 shF
        split <;> omega)
      have hfr := ho.fresh
      clear htk
      have HO := Lib.hid ho; clear ho
      have HB := Lib.hid hb; clear hb
      have HSV := Lib.hid hsv; clear hsv
      have HFR := Lib.hid hfr; clear hfr
      have HIL := Lib.hid hil; clear hil
      go_wp2_with fail
      go_ret
      exact ⟨_, _, _, rfl, HSV.out, HIL.out, HFR.out, HB.out⟩
end Go.Proofs.YtdkjanbfheehoaaGreat

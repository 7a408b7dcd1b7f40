/- The closure GraphTight$1: is there an edge. -/
import Derived.Test.YtbfbkpoakmnlpaaGV
import Derived.Test.YtbfbkpoakmnlpaaGW
namespace Go.Proofs.Ytbfbkpoakmnlpaa
open Go.RowKit

set_option maxRecDepth 100000 in
set_option maxHeartbeats 4000000 in
theorem edge1_any (bx : Nat) (A : Option Addr) (l c : Nat) (es : List (Int × Int)) (a b : Int) (w : World) (hbx : Blk w bx 30 #[.slice A l c]) (hE : SlIs pairR w A l c es) :
    Calls Try.prog 28 #[.int .i64 a, .int .i64 b, .pointer (some ⟨bx, 0, none⟩)] w fun e w' => e = .returned (.bool (decide ((a, b) ∈ es))) ∧ Below w.heap.size w w' := by
  have hlc := hE.cap
  have hcm := hE.max
  have hlen := hE.len
  have m0 : w.cell? ⟨bx, 0, none⟩ = some (.slice A l c) := hbx.cell 0
  have HBX := Lib.hid hbx; clear hbx
  have HE := Lib.hid hE; clear hE
  have HLEN := Lib.hid hlen; clear hlen
  go_enter Try.func28, Try.ntmps28
  go_wp2_with fail
  go_loopw [10] (fun t wr => ∃ k : Nat, k ≤ l ∧ t = .int .i64 (k : Int) ∧ Below w.heap.size w wr ∧ (a, b) ∉ es.take k) (fun t _ => l - (intOf t).toNat)
  case atStart => exact ⟨0, Nat.zero_le _, rfl, Below.refl _ _, by simp⟩
  case round =>
    obtain ⟨k, hk, rfl, hB, hn⟩ := hrel
    obtain ⟨wo, rfl⟩ : ∃ wo : World, wo = wr := ⟨_, rfl⟩
    by_cases hlt : k < l
    · have hE2 := HE.out.ext hB
      obtain ⟨x, hx, -⟩ := hE2.drop hlt
      obtain ⟨rb, ro, e1, _, f0, f1, -, -⟩ := hE2.pair hx
      cases e1
      obtain ⟨x1, x2⟩ := x
      simp only at f0 f1
      have heq := eq_pair x1 x2 a b
      have k0 : (0 : Int) ≤ (k : Int) := by omega
      have k1 : (k : Int) < (l : Int) := by omega
      have hb9 := bel_trans hB (bel_alloc wo (.cells #[.int .i64 x1, .int .i64 x2] 51))
      by_cases he : (x1, x2) = (a, b)
      · have hd : decide ((x1, x2) = (a, b)) = true := decide_eq_true he
        rw [hd] at heq
        have hin : decide ((a, b) ∈ es) = true := decide_eq_true (by rw [← he]; exact List.mem_of_getElem? hx)
        clear hd he hn
        have HE2 := Lib.hid hE2; clear hE2
        have HX := Lib.hid hx; clear hx
        have HB := Lib.hid hB; clear hB
        have HB9 := Lib.hid hb9; clear hb9
        have HIN := Lib.hid hin; clear hin
        go_wp2_with fail
        go_ret
        exact ⟨ret_bool HIN.out.symm, HB9.out⟩
      · have hd : decide ((x1, x2) = (a, b)) = false := decide_eq_false he
        rw [hd] at heq
        have hn2 : (a, b) ∉ es.take (k + 1) := by
          rw [take_snoc' hx, List.mem_append]
          rintro (q | q)
          · exact hn q
          · exact he (by rw [List.mem_singleton] at q; exact q.symm)
        clear hd he hn
        have HE2 := Lib.hid hE2; clear hE2
        have HX := Lib.hid hx; clear hx
        have HB := Lib.hid hB; clear hB
        have HB9 := Lib.hid hb9; clear hb9
        have HN2 := Lib.hid hn2; clear hn2
        go_wp2_with fail
        go_roundw
        case rel => exact ⟨k + 1, by omega, by go_num, HB9.out, HN2.out⟩
        case measure => simp [intOf]; omega
    · have hke : k = l := by omega
      subst hke
      rw [List.take_of_length_le (by have := HLEN.out; omega)] at hn
      have hin : decide ((a, b) ∈ es) = false := decide_eq_false hn
      have HB := Lib.hid hB; clear hB
      have HIN := Lib.hid hin; clear hin
      have HN := Lib.hid hn; clear hn
      go_wp2_with fail
      go_ret
      exact ⟨ret_bool HIN.out.symm, HB.out⟩
end Go.Proofs.Ytbfbkpoakmnlpaa

/- Contracts: graph.positive (the positive literals of a body, one by one). -/
import Derived.Test.YtbfbkpoakmnlpaaVls
import Derived.Test.YtbfbkpoakmnlpaaOfp
namespace Go.Proofs.Ytbfbkpoakmnlpaa
open Go.RowKit Go.Shelf

theorem psL_snoc {xs : List Int} {k : Nat} {x : Int} (h : xs[k]? = some x) : psL (xs.take (k + 1)) = psL (xs.take k) ++ (if 0 < x then [x] else []) := by
  unfold psL
  rw [take_snoc' h, List.filter_append]
  congr 1
  by_cases h0 : 0 < x <;> simp [h0]
theorem psL_pre (xs : List Int) (k : Nat) : psL (xs.take k) <+: psL xs := (List.take_prefix k xs).filter _
set_option maxRecDepth 100000 in
set_option maxHeartbeats 1000000 in
theorem positive_fn (bA : Option Addr) (bl bc : Nat) (w : World) :
    Calls Try.prog 52 #[.slice bA bl bc] w fun e w' => e = .returned (.func (.func 72) #[] #[.pointer (some ⟨w.heap.size, 0, none⟩)]) ∧ w' = w.alloc (.cells #[.slice bA bl bc] 23) := by
  go_enter Try.func52, Try.ntmps52
  go_wp2
  go_ret
  exact ⟨rfl, rfl⟩
set_option maxRecDepth 100000 in
set_option maxHeartbeats 4000000 in
theorem pos1_iter (m : Nat) (_hm : 1 ≤ m) (a : Nat) (xA : Option Addr) (xl xc : Nat) (xs : List Int) (M0 : List Nat) (w : World)
    (hres : ∀ M W, (∀ k ∈ M, k ∈ M0 ∨ w.heap.size ≤ k) → Kept M w W → W.cell? ⟨a, 0, none⟩ = some (.slice xA xl xc) ∧ SlIs intR W xA xl xc xs) :
    IterM Fence.wide m Try.prog 72 #[.pointer (some ⟨a, 0, none⟩)] GoodI (psL xs) M0 w := by
  intro l J Jx M W hJ hJx hJM hY h0 hbw hM
  refine callsIn_of_wp Try.func72 rfl trivial ?_ rfl
  simp only [Try.ntmps72, List.size_toArray, List.length_cons, List.length_nil, Nat.reduceAdd, Nat.reduceSub, Array.replicate_succ, Array.replicate_zero, List.push_toArray, List.append_toArray, List.nil_append, List.cons_append]
  obtain ⟨c0, hs0⟩ := hres M W hM (Kept.of_below hbw _)
  have hlen := hs0.len
  have hxc := hs0.cap
  have hxm := hs0.max
  have HJ' := Lib.hid hJ
  clear hJ
  have HY' := Lib.hid hY; clear hY
  have HRES := Lib.hid hres; clear hres
  have HJX := Lib.hid hJx; clear hJx
  have HJM := Lib.hid hJM; clear hJM
  have H0 := Lib.hid h0; clear h0
  have HM := Lib.hid hM; clear hM
  have HBW := Lib.hid hbw; clear hbw
  have HS0 := Lib.hid hs0; clear hs0
  have HLEN := Lib.hid hlen; clear hlen
  gi_wp2
  clear c0
  gi_loopw [7] (fun t wr => ∃ (k : Nat) (M Ms : List Nat), k ≤ xl ∧ t = .int .i64 (k : Int) ∧ J M (psL (xs.take k)) wr ∧ Kept Ms w wr ∧ (∀ q ∈ M, q ∈ Ms) ∧ (∀ q ∈ Ms, q ∈ M0 ∨ w.heap.size ≤ q)) (fun t _ => xl - (intOf t).toNat)
  case atStart => exact ⟨0, M, M, Nat.zero_le _, rfl, H0.out, Kept.of_below HBW.out _, fun _ h => h, HM.out⟩
  case round =>
    obtain ⟨k, M1, Ms, hk, rfl, hj, hkw, hsub, hM1⟩ := hrel
    obtain ⟨-, hs1⟩ := HRES.out Ms wr hM1 hkw
    by_cases hlt : k < xl
    · have k0 : (0 : Int) ≤ (k : Int) := by omega
      have k1 : (k : Int) < (xl : Int) := by omega
      obtain ⟨x, hx, -⟩ := hs1.drop hlt
      obtain ⟨xb, xo, rfl, lx, cx, x64⟩ := hs1.int hx
      have hsn := psL_snoc hx
      by_cases hp : 0 < x
      · rw [if_pos hp] at hsn
        have htk := hsn.symm
        have hgd : GoodI M1 x #[.int .i64 x] wr := ⟨rfl, x64⟩
        obtain ⟨fn, tmps, assign, body, hyy, hRd⟩ := HY'.out M1 _ _ _ _ hj (by rw [htk]; exact psL_pre _ _) hgd
        have HJ := Lib.hid hj; clear hj
        have HKW := Lib.hid hkw; clear hkw
        have HSUB := Lib.hid hsub; clear hsub
        have HM1 := Lib.hid hM1; clear hM1
        have HS1 := Lib.hid hs1; clear hs1
        have HX := Lib.hid hx; clear hx
        have X64 := Lib.hid x64; clear x64
        have HGD := Lib.hid hgd; clear hgd
        have HSN := Lib.hid hsn; clear hsn
        gi_wp2_with fail
        refine hRd.mono ?_
        rintro e W4 (⟨rfl, M2, hj4, hk4, hm4⟩ | ⟨rfl, hjx⟩)
        · rw [htk] at hj4
          have hw4 : Kept (Ms ++ M2) w W4 := (HKW.out.more (fun q hq => by simp [hq])).trans (hk4.more (fun q hq => by simp [HSUB.out q hq]))
          have hc4 : ∀ q ∈ Ms ++ M2, q ∈ M0 ∨ w.heap.size ≤ q := fun q hq => by
            rcases List.mem_append.1 hq with h | h
            · exact HM1.out q h
            · rcases hm4 q h with h | h
              · exact HM1.out q (HSUB.out q h)
              · exact .inr (Nat.le_trans HKW.out.size h)
          have HJ4 := Lib.hid hj4; clear hj4
          have HK4 := Lib.hid hk4; clear hk4
          have HM4 := Lib.hid hm4; clear hm4
          have HW4 := Lib.hid hw4; clear hw4
          have HC4 := Lib.hid hc4; clear hc4
          have HTK := Lib.hid htk; clear htk
          gi_wp2_with fail
          go_roundw
          case rel => exact ⟨k + 1, M2, Ms ++ M2, by omega, by go_num, HJ4.out, HW4.out, fun q hq => by simp [hq], HC4.out⟩
          case measure => simp [intOf]; omega
        · have HJX' := Lib.hid hjx; clear hjx
          have HTK := Lib.hid htk; clear htk
          gi_wp2_with fail
          refine bodyPost_ret (results_none rfl _ _ _) rfl ?_
          exact ⟨⟨_, rfl⟩, .inr ⟨_, by rw [HTK.out]; exact psL_pre _ _, HJX'.out⟩⟩
      · rw [if_neg hp, List.append_nil] at hsn
        rw [← hsn] at hj
        have HJ := Lib.hid hj; clear hj
        have HKW := Lib.hid hkw; clear hkw
        have HSUB := Lib.hid hsub; clear hsub
        have HM1 := Lib.hid hM1; clear hM1
        have HS1 := Lib.hid hs1; clear hs1
        have HX := Lib.hid hx; clear hx
        have X64 := Lib.hid x64; clear x64
        have HSN := Lib.hid hsn; clear hsn
        gi_wp2_with fail
        refine ⟨fun f h => (by cases h), ?_⟩
        gi_wp2_with fail
        go_roundw
        case rel => exact ⟨k + 1, M1, Ms, by omega, by go_num, HJ.out, HKW.out, HSUB.out, HM1.out⟩
        case measure => simp [intOf]; omega
    · have k1 : ¬ (k : Int) < (xl : Int) := by omega
      have hall : xs.take k = xs := List.take_of_length_le (by rw [← HLEN.out]; omega)
      rw [hall] at hj
      have HJ := Lib.hid hj; clear hj
      have HKW := Lib.hid hkw; clear hkw
      have HSUB := Lib.hid hsub; clear hsub
      have HM1 := Lib.hid hM1; clear hM1
      have HS1 := Lib.hid hs1; clear hs1
      have HALL := Lib.hid hall; clear hall
      gi_wp2_with fail
      go_end0
      exact ⟨⟨_, rfl⟩, .inl ⟨M1, HJ.out⟩⟩
end Go.Proofs.Ytbfbkpoakmnlpaa

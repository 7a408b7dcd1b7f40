/- What stable.subsets yields: all subsets, as an iterator. -/
import Derived.Test.YtdmcclfagjgcgaaGreatRngb
import Derived.Test.YtdmcclfagjgcgaaGreatG5
import Derived.OwnWalkIn
import Derived.TacticsInMore
import Derived.LoopNIn
import Derived.LoopIn
import Derived.Shelf.Abstract
import Derived.Laws.BitsAllLaws
namespace Go.Proofs.YtdmcclfagjgcgaaGreat
open Go.RowKit Go.Shelf
attribute [local go_sem] Oper.semAt_some

theorem pick_take : ∀ {m : List Int} {i : Nat} {x : Int} (k : Nat), m[i]? = some x → pickL (m.take (i + 1)) k = if (k / 2 ^ i) % 2 = 1 then pickL (m.take i) k ++ [x] else pickL (m.take i) k
  | [], i, x, k, h => by simp at h
  | a :: t, 0, x, k, h => by
    simp at h; subst h
    simp [pickL]
  | a :: t, i + 1, x, k, h => by
    have ih := pick_take (m := t) (i := i) (x := x) (k / 2) (by simpa using h)
    rw [List.take_succ_cons, List.take_succ_cons]
    have e : k / 2 ^ (i + 1) = k / 2 / 2 ^ i := by rw [Nat.div_div_eq_div_mul, Nat.pow_succ, Nat.mul_comm]
    rw [e]
    unfold pickL
    rw [ih]
    by_cases h1 : k % 2 = 1 <;> by_cases h2 : k / 2 / 2 ^ i % 2 = 1 <;> simp [h1, h2]
theorem i64_and_nat (a b : Nat) (ha : a < 9223372036854775808) (hb : b < 9223372036854775808) : Go.bits BinOp.and IntKind.i64 (a : Int) (b : Int) = ((a &&& b : Nat) : Int) := by
  have hx : a &&& b < 2 ^ 63 := Nat.and_lt_two_pow _ (by omega)
  show IntKind.i64.wrap ((BitVec.ofInt 64 (a : Int) &&& BitVec.ofInt 64 (b : Int)).toNat : Int) = _
  rw [BitVec.toNat_and, ofInt_u64 a (by omega), ofInt_u64 b (by omega)]
  exact IntWalk.i64_in _ (by omega)
theorem bit_at (k i : Nat) (hk : k < 9223372036854775808) : (Go.bits BinOp.and IntKind.i64 ((k : Int) / 2 ^ i) 1 == 1) = decide (k / 2 ^ i % 2 = 1) := by
  have e : ((k : Int) / 2 ^ i) = ((k / 2 ^ i : Nat) : Int) := by push_cast; rfl
  have hd : k / 2 ^ i ≤ k := Nat.div_le_self _ _
  rw [e, show (1 : Int) = ((1 : Nat) : Int) from rfl, i64_and_nat _ 1 (by omega) (by decide), Nat.and_one_is_mod]
  rcases Nat.mod_two_eq_zero_or_one (k / 2 ^ i) with h | h <;> simp [h]
/-- A set by value whose array lies off M. -/
def GoodS (M : List Nat) (x : List Int) (args : Array Value) (W : World) : Prop := ∃ (A : Option Addr) (l c : Nat), args = #[.slice A l c] ∧ SlIs intR W A l c x ∧ Off M A l
theorem GoodS.go {M M1 : List Nat} {x : List Int} {args : Array Value} {A B : World} (h : GoodS M x args A) (hs : ∀ k ∈ M1, k ∈ M) (hk : Kept M A B) : GoodS M1 x args B := by
  obtain ⟨a, l, c, e, h1, h2⟩ := h
  exact ⟨a, l, c, e, h1.keptM hk h2, h2.sub hs⟩
theorem GoodS.size {M : List Nat} {x : List Int} {args : Array Value} {W : World} (h : GoodS M x args W) : args.size = 1 := by
  obtain ⟨_, _, _, rfl, _⟩ := h; rfl
theorem subs_len (m : List Int) : (subsL m).length = 2 ^ m.length := by simp [subsL]
theorem subs_at {m : List Int} {k : Nat} (h : k < 2 ^ m.length) : (subsL m)[k]? = some (pickL m k) := by
  unfold subsL; rw [List.getElem?_map, List.getElem?_range h]; rfl

set_option maxRecDepth 100000 in
set_option maxHeartbeats 4000000 in
theorem sub1_iter (m : Nat) (_hm : 1 ≤ m) (a : Nat) (xA : Option Addr) (xl xc : Nat) (ms : List Int) (M0 : List Nat) (w : World)
    (hres : ∀ M W, (∀ k ∈ M, k ∈ M0 ∨ w.heap.size ≤ k) → Kept M w W → W.cell? ⟨a, 0, none⟩ = some (.slice xA xl xc) ∧ SlIs intR W xA xl xc ms) (hx : xl ≤ 12) :
    IterM Fence.wide m Tryz.prog 122 #[.pointer (some ⟨a, 0, none⟩)] GoodS (subsL ms) M0 w := by
  intro l J Jx M W hJ hJx hJM hY h0 hbw hM
  refine callsIn_of_wp Tryz.func122 rfl trivial ?_ rfl
  simp only [Tryz.ntmps122, List.size_toArray, List.length_cons, List.length_nil, Nat.reduceAdd, Nat.reduceSub, Array.replicate_succ, Array.replicate_zero, List.push_toArray, List.append_toArray, List.nil_append, List.cons_append]
  obtain ⟨c0, hs0⟩ := hres M W hM (Kept.of_below hbw _)
  have hlen := hs0.len
  have hxc := hs0.cap
  have hxm := hs0.max
  have HJ' := Lib.hid hJ
  clear hJ
  have HY' := Lib.hid hY; clear hY
  have HRES := Lib.hid hres; clear hres
  have HJX := Lib.hid hJx; clear hJx
  have HJM := Lib.hid hJM; clear hJM
  have H0 := Lib.hid h0; clear h0
  have HM := Lib.hid hM; clear hM
  have HBW := Lib.hid hbw; clear hbw
  have HS0 := Lib.hid hs0; clear hs0
  have HLEN := Lib.hid hlen; clear hlen
  gi_wp2
  obtain ⟨T, hT⟩ : ∃ T : Nat, T = 2 ^ xl := ⟨_, rfl⟩
  have hT2 : T ≤ 4096 := by rw [hT]; exact Nat.pow_le_pow_right (by omega) hx
  have eT : wrap64 ((2 : Int) ^ xl) = (T : Int) := by
    have h1 : (2 : Int) ^ xl = (T : Int) := by rw [hT]; push_cast; rfl
    rw [h1]
    exact IntWalk.wrap64_in _ (by omega)
  rw [eT]
  have HT := Lib.hid hT
  clear hT eT c0
  gi_loopw [10] (fun t wr => ∃ (k : Nat) (M Ms : List Nat), k ≤ T ∧ t = .int .i64 (k : Int) ∧ J M ((subsL ms).take k) wr ∧ Kept Ms w wr ∧ (∀ q ∈ M, q ∈ Ms) ∧ (∀ q ∈ Ms, q ∈ M0 ∨ w.heap.size ≤ q)) (fun t _ => T - (intOf t).toNat)
  case atStart => exact ⟨0, M, M, Nat.zero_le _, rfl, H0.out, Kept.of_below HBW.out _, fun _ h => h, HM.out⟩
  case round =>
    obtain ⟨k, M1, Ms, hk, rfl, hj, hkw, hsub, hM1⟩ := hrel
    obtain ⟨c0, hs1⟩ := HRES.out Ms wr hM1 hkw
    by_cases hlt : k < T
    · have k0 : (0 : Int) ≤ (k : Int) := by omega
      have hms := HJM.out _ _ _ hj
      have HJ1 := Lib.hid hj; clear hj
      have hx1 := hs1.small
      have HKW := Lib.hid hkw; clear hkw
      have HSUB := Lib.hid hsub; clear hsub
      have HM1 := Lib.hid hM1; clear hM1
      have HS1 := Lib.hid hs1; clear hs1
      have HMS := Lib.hid hms; clear hms
      gi_wp2_with fail
      obtain ⟨wo, rfl⟩ : ∃ wo : World, wo = wr := ⟨_, rfl⟩
      gi_loopw [4, 15] (fun v t wq => ∃ (i lv : Nat), i ≤ xl ∧ t = .int .i64 (i : Int) ∧ OwnI wq wo.heap.size v lv (pickL (ms.take i) k) ∧ lv ≤ i ∧ Below wo.heap.size wo wq) (fun _ t _ => xl - (intOf t).toNat)
      case atStart => exact ⟨0, 0, Nat.zero_le _, rfl, OwnI.nil _ _, Nat.le_refl _, Below.refl _ _⟩
      case round =>
        obtain ⟨i, lv, hi, rfl, ho, hlv, hb⟩ := hrel
        have hsz := hb.size
        by_cases hlt2 : i < xl
        · obtain ⟨x, hx, -⟩ := HS1.out.drop hlt2
          obtain ⟨xb, xo, rfl, lx, cx, _⟩ := (HS1.out.ext hb).int hx
          have hpt := pick_take k hx
          have i0 : (0 : Int) ≤ (i : Int) := by omega
          have i1 : (i : Int) < (xl : Int) := by omega
          have hbt := bit_at k i (by omega)
          by_cases hbit : k / 2 ^ i % 2 = 1
          · rw [decide_eq_true hbit] at hbt
            rw [if_pos hbit] at hpt
            obtain ⟨v', w3, hrun, hown3, hg3, hat3⟩ := app1 ho x (by omega) hsz 23
            have hb3 := bel_grown hb hg3 hsz (fun z hz => (ho.2.lt z hz).1)
            have HPT := Lib.hid hpt; clear hpt
            have HX := Lib.hid hx; clear hx
            have HO := Lib.hid ho; clear ho
            have HB := Lib.hid hb; clear hb
            have HRUN := Lib.hid hrun; clear hrun
            have HOWN3 := Lib.hid hown3; clear hown3
            have HG3 := Lib.hid hg3; clear hg3
            have HAT3 := Lib.hid hat3; clear hat3
            have HB3 := Lib.hid hb3; clear hb3
            have HBIT := Lib.hid hbit; clear hbit
            gi_wp2_with (refine wpListIn_append_run rfl _ _ _ rfl _ _ rfl rfl _ _ HRUN.out ?_)
            go_roundw
            case rel => exact ⟨i + 1, lv + 1, by omega, by go_num, by rw [HPT.out]; exact HOWN3.out, by omega, HB3.out⟩
            case measure => simp [intOf]; omega
          · rw [decide_eq_false hbit] at hbt
            rw [if_neg hbit] at hpt
            have HPT := Lib.hid hpt; clear hpt
            have HX := Lib.hid hx; clear hx
            have HO := Lib.hid ho; clear ho
            have HB := Lib.hid hb; clear hb
            have HBIT := Lib.hid hbit; clear hbit
            gi_wp2_with fail
            go_roundw
            case rel => exact ⟨i + 1, lv, by omega, by go_num, by rw [HPT.out]; exact HO.out, by omega, HB.out⟩
            case measure => simp [intOf]; omega
        · have hil : i = xl := by omega
          subst hil
          rw [List.take_of_length_le (by rw [← HLEN.out]; omega)] at ho
          obtain ⟨vA, vc, rfl, hsv⟩ := ho.sl (by omega) (fun y hy => HS1.out.all64 y ((pickL_sub ms k).subset hy))
          have hkl : k < 2 ^ ms.length := by have := HT.out; rw [HLEN.out] at this; omega
          have hat := subs_at hkl
          have htk : (subsL ms).take k ++ [pickL ms k] = (subsL ms).take (k + 1) := (take_snoc' hat).symm
          have hgd : GoodS M1 (pickL ms k) #[.slice vA lv vc] wr := ⟨vA, lv, vc, rfl, hsv, fun h0 ad e hm => by
            have h1 := ho.fresh h0 ad e
            have h2 := HMS.out _ hm
            omega⟩
          obtain ⟨fn, tmps, assign, body, hyy, hRd⟩ := HY'.out M1 _ _ _ _ (HJ'.out _ _ _ _ HJ1.out hb) (by rw [htk]; exact List.take_prefix _ _) hgd
          have hkV := HKW.out.bel hb
          have HO := Lib.hid ho; clear ho
          have HB := Lib.hid hb; clear hb
          have HSV := Lib.hid hsv; clear hsv
          have HKL := Lib.hid hkl; clear hkl
          have HAT := Lib.hid hat; clear hat
          have HGD := Lib.hid hgd; clear hgd
          have HKV := Lib.hid hkV; clear hkV
          gi_wp2_with fail
          refine hRd.mono ?_
          rintro e W4 (⟨rfl, M2, hj4, hk4, hm4⟩ | ⟨rfl, hjx⟩)
          · rw [htk] at hj4
            have hw4 : Kept (Ms ++ M2) w W4 := (HKV.out.more (fun q hq => by simp [hq])).trans (hk4.more (fun q hq => by simp [HSUB.out q hq]))
            have hc4 : ∀ q ∈ Ms ++ M2, q ∈ M0 ∨ w.heap.size ≤ q := fun q hq => by
              rcases List.mem_append.1 hq with h | h
              · exact HM1.out q h
              · rcases hm4 q h with h | h
                · exact HM1.out q (HSUB.out q h)
                · exact .inr (Nat.le_trans HKV.out.size h)
            have HJ4 := Lib.hid hj4; clear hj4
            have HK4 := Lib.hid hk4; clear hk4
            have HM4 := Lib.hid hm4; clear hm4
            have HW4 := Lib.hid hw4; clear hw4
            have HC4 := Lib.hid hc4; clear hc4
            have HTK := Lib.hid htk; clear htk
            gi_wp2_with fail
            go_roundw
            case rel => exact ⟨k + 1, M2, Ms ++ M2, by omega, by go_num, HJ4.out, HW4.out, fun q hq => by simp [hq], HC4.out⟩
            case measure => simp [intOf]; omega
          · have HJX' := Lib.hid hjx; clear hjx
            have HTK := Lib.hid htk; clear htk
            gi_wp2_with fail
            refine bodyPost_ret (results_none rfl _ _ _) rfl ?_
            exact ⟨⟨_, rfl⟩, .inr ⟨_, by rw [HTK.out]; exact List.take_prefix _ _, HJX'.out⟩⟩
    · have hkT : k = T := by omega
      have hall : (subsL ms).take k = subsL ms := List.take_of_length_le (by rw [subs_len, ← HLEN.out, ← HT.out]; omega)
      rw [hall] at hj
      have HJ := Lib.hid hj; clear hj
      have HKW := Lib.hid hkw; clear hkw
      have HSUB := Lib.hid hsub; clear hsub
      have HM1 := Lib.hid hM1; clear hM1
      have HS1 := Lib.hid hs1; clear hs1
      have HALL := Lib.hid hall; clear hall
      gi_wp2_with fail
      go_end0
      exact ⟨⟨_, rfl⟩, .inl ⟨M1, HJ.out⟩⟩
end Go.Proofs.YtdmcclfagjgcgaaGreat

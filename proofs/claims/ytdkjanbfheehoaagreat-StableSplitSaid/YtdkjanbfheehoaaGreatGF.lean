/- Several texts in one: Sw1, Sw2, Sw5. -/
import Derived.Test.YtdkjanbfheehoaaGreatRd7
import Derived.Test.YtdkjanbfheehoaaGreatG3
import Derived.Test.YtdkjanbfheehoaaGreatRngb
import Derived.Test.YtdkjanbfheehoaaGreatG5
import Derived.OwnWalkIn
import Derived.TacticsInMore
import Derived.LoopNIn
import Derived.LoopIn
import Derived.Shelf.Abstract
import Derived.Laws.BitsAllLaws
import Derived.Test.YtdkjanbfheehoaaGreatRdc
/- Contracts: stable.disjunctive, satisfies. -/
namespace Go.Proofs.YtdkjanbfheehoaaGreat
open Go.RowKit

set_option maxRecDepth 100000 in
set_option maxHeartbeats 1000000 in
theorem dis1_any (x : GRule) (hA : Option Addr) (hl hc : Nat) (bA : Option Addr) (bl bc : Nat) (wA : Option Addr) (wl wc : Nat) (w : World) (hx : RuleIn w x hA hl hc bA bl bc wA wl wc) :
    Calls Tryz.prog 66 #[.agg #[.bool x.choice, .slice hA hl hc, .bool x.sum, .int .i64 x.bound, .slice bA bl bc, .slice wA wl wc]] w fun e w' => e = .returned (.bool (!x.choice && decide (1 < x.head.length))) ∧ Below w.heap.size w w' := by
  have hhl := hx.head.len
  have hhc := hx.head.cap
  have hhm := hx.head.max
  rw [← hhl]
  clear hhl
  cases hc : x.choice with
  | true =>
    have HX := Lib.hid hx; clear hx
    have HC := Lib.hid hc; clear hc
    go_enter Tryz.func66, Tryz.ntmps66
    go_wp2_with fail
    go_ret
    exact ⟨rfl, bel_alloc _ _⟩
  | false =>
    by_cases h1 : 1 < hl
    · have e1 : decide ((1 : Int) < (hl : Int)) = true := decide_eq_true (by omega)
      have e2 : decide (1 < hl) = true := decide_eq_true h1
      have HX := Lib.hid hx; clear hx
      have HC := Lib.hid hc; clear hc
      go_enter Tryz.func66, Tryz.ntmps66
      go_wp2_with fail
      go_ret
      exact ⟨ret_bool (by rw [e2]; rfl), bel_alloc _ _⟩
    · have e1 : decide ((1 : Int) < (hl : Int)) = false := decide_eq_false (by omega)
      have e2 : decide (1 < hl) = false := decide_eq_false h1
      have HX := Lib.hid hx; clear hx
      have HC := Lib.hid hc; clear hc
      go_enter Tryz.func66, Tryz.ntmps66
      go_wp2_with fail
      go_ret
      exact ⟨ret_bool (by rw [e2]; rfl), bel_alloc _ _⟩
def disR (r : GRule) : Bool := !r.choice && decide (1 < r.head.length)
set_option maxRecDepth 100000 in
set_option maxHeartbeats 1000000 in
theorem disjunctive_any (p : GProg) (nA : Option Addr) (nl nc : Nat) (sA : Option Addr) (sl sc : Nat) (rA : Option Addr) (rl rc : Nat) (mA : Option Addr) (ml mc : Nat) (w : World) (hp : ProgIn w p nA nl nc sA sl sc rA rl rc mA ml mc) :
    Calls Tryz.prog 30 #[.agg #[.int .i64 p.n, .slice nA nl nc, .slice sA sl sc, .slice rA rl rc, .slice mA ml mc]] w fun e w' => e = .returned (.bool (p.rules.any disR)) ∧ Below w.heap.size w w' := by
  have cF := fun W (hb : Below w.heap.size w W) => containsFuncR_any rA rl rc p.rules 66 #[] disR W (hp.rules.ext hb) (fun args W => by kernel_rfl)
    (fun W' x hA hl hc bA bl bc wA wl wc _ _ hx => dis1_any x hA hl hc bA bl bc wA wl wc W' hx)
  have HP := Lib.hid hp; clear hp
  have CF := Lib.hid cF; clear cF
  go_enter Tryz.func30, Tryz.ntmps30
  go_wp2_with fail
  go_fit (CF.out _ (bel_alloc _ _)); rintro e w1 ⟨rfl, hb1⟩
  have HB1 := Lib.hid (bel_trans (bel_alloc _ _) hb1)
  clear hb1
  go_wp2_with fail
  go_ret
  exact ⟨rfl, HB1.out⟩
set_option maxRecDepth 100000 in
set_option maxHeartbeats 1000000 in
theorem sat11_any (x : Int) (a : Nat) (mA : Option Addr) (ml mc : Nat) (ms : List Int) (w : World) (hc : w.cell? ⟨a, 0, none⟩ = some (.slice mA ml mc)) (hm : SlIs intR w mA ml mc ms) :
    Calls Tryz.prog 132 #[.int .i64 x, .pointer (some ⟨a, 0, none⟩)] w fun e w' => e = .returned (.bool (decide (x ∈ ms))) ∧ Below w.heap.size w w' := by
  have cC := containsI_any mA ml mc ms x w hm
  have HM := Lib.hid hm; clear hm
  have CC := Lib.hid cC; clear cC
  go_enter Tryz.func132, Tryz.ntmps132
  go_wp2_with fail
  go_fit CC.out; rintro e w' ⟨rfl, rfl⟩
  go_wp2_with fail
  go_ret
  exact ⟨rfl, Below.refl _ _⟩
/-- A rule that is satisfied, as the program tells it. -/
def satC (r : GRule) (m : List Int) : Bool := r.choice || (!bodyC r m || r.head.any (fun a => decide (a ∈ m)))
set_option maxRecDepth 100000 in
set_option maxHeartbeats 2000000 in
theorem sat1_any (x : GRule) (hA : Option Addr) (hl hc : Nat) (bA : Option Addr) (bl bc : Nat) (wA : Option Addr) (wl wc : Nat) (a : Nat) (mA : Option Addr) (ml mc : Nat) (ms : List Int) (w : World) (hx : RuleIn w x hA hl hc bA bl bc wA wl wc) (hcell : w.cell? ⟨a, 0, none⟩ = some (.slice mA ml mc)) (hm : SlIs intR w mA ml mc ms) :
    Calls Tryz.prog 130 #[.agg #[.bool x.choice, .slice hA hl hc, .bool x.sum, .int .i64 x.bound, .slice bA bl bc, .slice wA wl wc], .pointer (some ⟨a, 0, none⟩)] w fun e w' => e = .returned (.bool (!satC x ms)) ∧ Below w.heap.size w w' := by
  have hsat : satC x ms = (x.choice || (!bodyC x ms || x.head.any (fun a => decide (a ∈ ms)))) := rfl
  have hal := World.block_lt_of_cell? w _ hcell
  simp only at hal
  have cB := fun W (hb : Below w.heap.size w W) => bodyOut_any x hA hl hc bA bl bc wA wl wc mA ml mc ms W (hx.ext hb) (hm.ext hb)
  have cH := fun W (hb : Below w.heap.size w W) => containsFuncI_any hA hl hc x.head 132 #[.pointer (some ⟨a, 0, none⟩)] (fun y => decide (y ∈ ms)) W (hx.head.ext hb) (fun args W => by kernel_rfl)
      (fun W' y hb' _ _ => sat11_any y a mA ml mc ms W' (((bel_trans hb hb').cell (p := ⟨a, 0, none⟩) hal).trans hcell) (hm.ext (bel_trans hb hb')))
  generalize bodyC x ms = q at *
  generalize x.head.any (fun y => decide (y ∈ ms)) = q2 at *
  cases hch : x.choice with
  | true =>
    rw [hch] at hsat
    clear cB cH
    have HX := Lib.hid hx; clear hx
    have HM := Lib.hid hm; clear hm
    have HSAT := Lib.hid hsat; clear hsat
    have HCH := Lib.hid hch; clear hch
    go_enter Tryz.func130, Tryz.ntmps130
    go_wp2_with fail
    go_ret
    exact ⟨ret_bool (by rw [HSAT.out]; rfl), bel_alloc _ _⟩
  | false =>
    rw [hch] at hsat cB
    cases q with
    | false =>
      have HX := Lib.hid hx; clear hx
      have HM := Lib.hid hm; clear hm
      have HSAT := Lib.hid hsat; clear hsat
      have HCH := Lib.hid hch; clear hch
      have CB := Lib.hid cB; clear cB
      have CH := Lib.hid cH; clear cH
      go_enter Tryz.func130, Tryz.ntmps130
      go_wp2_with fail
      go_fit (CB.out _ (bel_alloc _ _)); rintro e w1 ⟨rfl, hb1⟩
      have HB1 := Lib.hid (bel_trans (bel_alloc _ _) hb1)
      clear hb1
      go_wp2_with fail
      go_ret
      exact ⟨ret_bool (by rw [HSAT.out]; rfl), HB1.out⟩
    | true =>
      have HX := Lib.hid hx; clear hx
      have HM := Lib.hid hm; clear hm
      have HSAT := Lib.hid hsat; clear hsat
      have HCH := Lib.hid hch; clear hch
      have CB := Lib.hid cB; clear cB
      have CH := Lib.hid cH; clear cH
      go_enter Tryz.func130, Tryz.ntmps130
      go_wp2_with fail
      go_fit (CB.out _ (bel_alloc _ _)); rintro e w1 ⟨rfl, hb1⟩
      have hb1' := (Blk.new w 32 #[.bool false, .slice hA hl hc, .bool x.sum, .int .i64 x.bound, .slice bA bl bc, .slice wA wl wc]).bel hb1
      have s1 := hb1'.cell 1
      have s2 := hb1'.lt
      have HB1 := Lib.hid (bel_trans (bel_alloc _ _) hb1)
      clear hb1
      have HB1' := Lib.hid hb1'; clear hb1'
      go_wp2_with fail
      go_fit (CH.out _ HB1.out); rintro e w2 ⟨rfl, hb2⟩
      have HB2 := Lib.hid (bel_trans HB1.out hb2)
      clear hb2
      go_wp2_with fail
      go_ret
      exact ⟨ret_bool (by rw [HSAT.out]; simp), HB2.out⟩
set_option maxRecDepth 100000 in
set_option maxHeartbeats 1000000 in
theorem satisfies_any (rA : Option Addr) (rl rc : Nat) (rs : List GRule) (mA : Option Addr) (ml mc : Nat) (ms : List Int) (w : World) (h : SlIs ruleR w rA rl rc rs) (hm : SlIs intR w mA ml mc ms) :
    Calls Tryz.prog 99 #[.slice rA rl rc, .slice mA ml mc] w fun e w' => e = .returned (.bool (rs.all (fun r => satC r ms))) ∧ Below w.heap.size w w' := by
  have cF := fun W (hb : Below (w.alloc (.cells #[.slice mA ml mc] 23)).heap.size (w.alloc (.cells #[.slice mA ml mc] 23)) W) => containsFuncR_any rA rl rc rs 130 #[.pointer (some ⟨w.heap.size, 0, none⟩)] (fun r => !satC r ms) W (h.ext (bel_trans (bel_alloc _ _) hb)) (fun args W => by kernel_rfl)
    (fun W' x hA hl hc bA bl bc wA wl wc hb' _ hx => sat1_any x hA hl hc bA bl bc wA wl wc w.heap.size mA ml mc ms W' hx (((Blk.new w 23 #[.slice mA ml mc]).bel (bel_trans hb hb')).cell 0) (hm.ext (bel_trans (bel_alloc _ _) (bel_trans hb hb'))))
  have he : (!rs.any fun r => !satC r ms) = rs.all (fun r => satC r ms) := by rw [List.not_any_eq_all_not]; simp
  rw [← he]
  have H := Lib.hid h; clear h
  have HM := Lib.hid hm; clear hm
  have CF := Lib.hid cF; clear cF
  have HE := Lib.hid he; clear he
  go_enter Tryz.func99, Tryz.ntmps99
  go_wp2_with fail
  go_fit (CF.out _ (Below.refl _ _)); rintro e w1 ⟨rfl, hb1⟩
  have HB1 := Lib.hid (bel_trans (bel_alloc _ _) hb1)
  clear hb1
  go_wp2_with fail
  go_ret
  exact ⟨rfl, HB1.out⟩
end Go.Proofs.YtdkjanbfheehoaaGreat
/- What stable.subsets yields: all subsets, as an iterator. -/
namespace Go.Proofs.YtdkjanbfheehoaaGreat
open Go.RowKit Go.Shelf
attribute [local go_sem] Oper.semAt_some

theorem pick_take : ∀ {m : List Int} {i : Nat} {x : Int} (k : Nat), m[i]? = some x → pickL (m.take (i + 1)) k = if (k / 2 ^ i) % 2 = 1 then pickL (m.take i) k ++ [x] else pickL (m.take i) k
  | [], i, x, k, h => by simp at h
  | a :: t, 0, x, k, h => by
    simp at h; subst h
    simp [pickL]
  | a :: t, i + 1, x, k, h => by
    have ih := pick_take (m := t) (i := i) (x := x) (k / 2) (by simpa using h)
    rw [List.take_succ_cons, List.take_succ_cons]
    have e : k / 2 ^ (i + 1) = k / 2 / 2 ^ i := by rw [Nat.div_div_eq_div_mul, Nat.pow_succ, Nat.mul_comm]
    rw [e]
    unfold pickL
    rw [ih]
    by_cases h1 : k % 2 = 1 <;> by_cases h2 : k / 2 / 2 ^ i % 2 = 1 <;> simp [h1, h2]
theorem i64_and_nat (a b : Nat) (ha : a < 9223372036854775808) (hb : b < 9223372036854775808) : Go.bits BinOp.and IntKind.i64 (a : Int) (b : Int) = ((a &&& b : Nat) : Int) := by
  have hx : a &&& b < 2 ^ 63 := Nat.and_lt_two_pow _ (by omega)
  show IntKind.i64.wrap ((BitVec.ofInt 64 (a : Int) &&& BitVec.ofInt 64 (b : Int)).toNat : Int) = _
  rw [BitVec.toNat_and, ofInt_u64 a (by omega), ofInt_u64 b (by omega)]
  exact IntWalk.i64_in _ (by omega)
theorem bit_at (k i : Nat) (hk : k < 9223372036854775808) : (Go.bits BinOp.and IntKind.i64 ((k : Int) / 2 ^ i) 1 == 1) = decide (k / 2 ^ i % 2 = 1) := by
  have e : ((k : Int) / 2 ^ i) = ((k / 2 ^ i : Nat) : Int) := by push_cast; rfl
  have hd : k / 2 ^ i ≤ k := Nat.div_le_self _ _
  rw [e, show (1 : Int) = ((1 : Nat) : Int) from rfl, i64_and_nat _ 1 (by omega) (by decide), Nat.and_one_is_mod]
  rcases Nat.mod_two_eq_zero_or_one (k / 2 ^ i) with h | h <;> simp [h]
/-- A set by value whose array lies off M. -/
def GoodS (M : List Nat) (x : List Int) (args : Array Value) (W : World) : Prop := ∃ (A : Option Addr) (l c : Nat), args = #[.slice A l c] ∧ SlIs intR W A l c x ∧ Off M A l
theorem GoodS.go {M M1 : List Nat} {x : List Int} {args : Array Value} {A B : World} (h : GoodS M x args A) (hs : ∀ k ∈ M1, k ∈ M) (hk : Kept M A B) : GoodS M1 x args B := by
  obtain ⟨a, l, c, e, h1, h2⟩ := h
  exact ⟨a, l, c, e, h1.keptM hk h2, h2.sub hs⟩
theorem GoodS.size {M : List Nat} {x : List Int} {args : Array Value} {W : World} (h : GoodS M x args W) : args.size = 1 := by
  obtain ⟨_, _, _, rfl, _⟩ := h; rfl
theorem subs_len (m : List Int) : (subsL m).length = 2 ^ m.length := by simp [subsL]
theorem subs_at {m : List Int} {k : Nat} (h : k < 2 ^ m.length) : (subsL m)[k]? = some (pickL m k) := by
  unfold subsL; rw [List.getElem?_map, List.getElem?_range h]; rfl

set_option maxRecDepth 100000 in
set_option maxHeartbeats 4000000 in
theorem sub1_iter (m : Nat) (_hm : 1 ≤ m) (a : Nat) (xA : Option Addr) (xl xc : Nat) (ms : List Int) (M0 : List Nat) (w : World)
    (hres : ∀ M W, (∀ k ∈ M, k ∈ M0 ∨ w.heap.size ≤ k) → Kept M w W → W.cell? ⟨a, 0, none⟩ = some (.slice xA xl xc) ∧ SlIs intR W xA xl xc ms) (hx : xl ≤ 12) :
    IterM Fence.wide m Tryz.prog 67 #[.pointer (some ⟨a, 0, none⟩)] GoodS (subsL ms) M0 w := by
  intro l J Jx M W hJ hJx hJM hY h0 hbw hM
  refine callsIn_of_wp Tryz.func67 rfl trivial ?_ rfl
  simp only [Tryz.ntmps67, List.size_toArray, List.length_cons, List.length_nil, Nat.reduceAdd, Nat.reduceSub, Array.replicate_succ, Array.replicate_zero, List.push_toArray, List.append_toArray, List.nil_append, List.cons_append]
  obtain ⟨c0, hs0⟩ := hres M W hM (Kept.of_below hbw _)
  have hlen := hs0.len
  have hxc := hs0.cap
  have hxm := hs0.max
  have HJ' := Lib.hid hJ
  clear hJ
  have HY' := Lib.hid hY; clear hY
  have HRES := Lib.hid hres; clear hres
  have HJX := Lib.hid hJx; clear hJx
  have HJM := Lib.hid hJM; clear hJM
  have H0 := Lib.hid h0; clear h0
  have HM := Lib.hid hM; clear hM
  have HBW := Lib.hid hbw; clear hbw
  have HS0 := Lib.hid hs0; clear hs0
  have HLEN := Lib.hid hlen; clear hlen
  gi_wp2
  obtain ⟨T, hT⟩ : ∃ T : Nat, T = 2 ^ xl := ⟨_, rfl⟩
  have hT2 : T ≤ 4096 := by rw [hT]; exact Nat.pow_le_pow_right (by omega) hx
  have eT : wrap64 ((2 : Int) ^ xl) = (T : Int) := by
    have h1 : (2 : Int) ^ xl = (T : Int) := by rw [hT]; push_cast; rfl
    rw [h1]
    exact IntWalk.wrap64_in _ (by omega)
  rw [eT]
  have HT := Lib.hid hT
  clear hT eT c0
  gi_loopw [10] (fun t wr => ∃ (k : Nat) (M Ms : List Nat), k ≤ T ∧ t = .int .i64 (k : Int) ∧ J M ((subsL ms).take k) wr ∧ Kept Ms w wr ∧ (∀ q ∈ M, q ∈ Ms) ∧ (∀ q ∈ Ms, q ∈ M0 ∨ w.heap.size ≤ q)) (fun t _ => T - (intOf t).toNat)
  case atStart => exact ⟨0, M, M, Nat.zero_le _, rfl, H0.out, Kept.of_below HBW.out _, fun _ h => h, HM.out⟩
  case round =>
    obtain ⟨k, M1, Ms, hk, rfl, hj, hkw, hsub, hM1⟩ := hrel
    obtain ⟨c0, hs1⟩ := HRES.out Ms wr hM1 hkw
    by_cases hlt : k < T
    · have k0 : (0 : Int) ≤ (k : Int) := by omega
      have hms := HJM.out _ _ _ hj
      have HJ1 := Lib.hid hj; clear hj
      have hx1 := hs1.small
      have HKW := Lib.hid hkw; clear hkw
      have HSUB := Lib.hid hsub; clear hsub
      have HM1 := Lib.hid hM1; clear hM1
      have HS1 := Lib.hid hs1; clear hs1
      have HMS := Lib.hid hms; clear hms
      gi_wp2_with fail
      obtain ⟨wo, rfl⟩ : ∃ wo : World, wo = wr := ⟨_, rfl⟩
      gi_loopw [4, 15] (fun v t wq => ∃ (i lv : Nat), i ≤ xl ∧ t = .int .i64 (i : Int) ∧ OwnI wq wo.heap.size v lv (pickL (ms.take i) k) ∧ lv ≤ i ∧ Below wo.heap.size wo wq) (fun _ t _ => xl - (intOf t).toNat)
      case atStart => exact ⟨0, 0, Nat.zero_le _, rfl, OwnI.nil _ _, Nat.le_refl _, Below.refl _ _⟩
      case round =>
        obtain ⟨i, lv, hi, rfl, ho, hlv, hb⟩ := hrel
        have hsz := hb.size
        by_cases hlt2 : i < xl
        · obtain ⟨x, hx, -⟩ := HS1.out.drop hlt2
          obtain ⟨xb, xo, rfl, lx, cx, _⟩ := (HS1.out.ext hb).int hx
          have hpt := pick_take k hx
          have i0 : (0 : Int) ≤ (i : Int) := by omega
          have i1 : (i : Int) < (xl : Int) := by omega
          have hbt := bit_at k i (by omega)
          by_cases hbit : k / 2 ^ i % 2 = 1
          · rw [decide_eq_true hbit] at hbt
            rw [if_pos hbit] at hpt
            obtain ⟨v', w3, hrun, hown3, hg3, hat3⟩ := app1 ho x (by omega) hsz 23
            have hb3 := bel_grown hb hg3 hsz (fun z hz => (ho.2.lt z hz).1)
            have HPT := Lib.hid hpt; clear hpt
            have HX := Lib.hid hx; clear hx
            have HO := Lib.hid ho; clear ho
            have HB := Lib.hid hb; clear hb
            have HRUN := Lib.hid hrun; clear hrun
            have HOWN3 := Lib.hid hown3; clear hown3
            have HG3 := Lib.hid hg3; clear hg3
            have HAT3 := Lib.hid hat3; clear hat3
            have HB3 := Lib.hid hb3; clear hb3
            have HBIT := Lib.hid hbit; clear hbit
            gi_wp2_with (refine wpListIn_append_run rfl _ _ _ rfl _ _ rfl rfl _ _ HRUN.out ?_)
            go_roundw
            case rel => exact ⟨i + 1, lv + 1, by omega, by go_num, by rw [HPT.out]; exact HOWN3.out, by omega, HB3.out⟩
            case measure => simp [intOf]; omega
          · rw [decide_eq_false hbit] at hbt
            rw [if_neg hbit] at hpt
            have HPT := Lib.hid hpt; clear hpt
            have HX := Lib.hid hx; clear hx
            have HO := Lib.hid ho; clear ho
            have HB := Lib.hid hb; clear hb
            have HBIT := Lib.hid hbit; clear hbit
            gi_wp2_with fail
            go_roundw
            case rel => exact ⟨i + 1, lv, by omega, by go_num, by rw [HPT.out]; exact HO.out, by omega, HB.out⟩
            case measure => simp [intOf]; omega
        · have hil : i = xl := by omega
          subst hil
          rw [List.take_of_length_le (by rw [← HLEN.out]; omega)] at ho
          obtain ⟨vA, vc, rfl, hsv⟩ := ho.sl (by omega) (fun y hy => HS1.out.all64 y ((pickL_sub ms k).subset hy))
          have hkl : k < 2 ^ ms.length := by have := HT.out; rw [HLEN.out] at this; omega
          have hat := subs_at hkl
          have htk : (subsL ms).take k ++ [pickL ms k] = (subsL ms).take (k + 1) := (take_snoc' hat).symm
          have hgd : GoodS M1 (pickL ms k) #[.slice vA lv vc] wr := ⟨vA, lv, vc, rfl, hsv, fun h0 ad e hm => by
            have h1 := ho.fresh h0 ad e
            have h2 := HMS.out _ hm
            omega⟩
          obtain ⟨fn, tmps, assign, body, hyy, hRd⟩ := HY'.out M1 _ _ _ _ (HJ'.out _ _ _ _ HJ1.out hb) (by rw [htk]; exact List.take_prefix _ _) hgd
          have hkV := HKW.out.bel hb
          have HO := Lib.hid ho; clear ho
          have HB := Lib.hid hb; clear hb
          have HSV := Lib.hid hsv; clear hsv
          have HKL := Lib.hid hkl; clear hkl
          have HAT := Lib.hid hat; clear hat
          have HGD := Lib.hid hgd; clear hgd
          have HKV := Lib.hid hkV; clear hkV
          gi_wp2_with fail
          refine hRd.mono ?_
          rintro e W4 (⟨rfl, M2, hj4, hk4, hm4⟩ | ⟨rfl, hjx⟩)
          · rw [htk] at hj4
            have hw4 : Kept (Ms ++ M2) w W4 := (HKV.out.more (fun q hq => by simp [hq])).trans (hk4.more (fun q hq => by simp [HSUB.out q hq]))
            have hc4 : ∀ q ∈ Ms ++ M2, q ∈ M0 ∨ w.heap.size ≤ q := fun q hq => by
              rcases List.mem_append.1 hq with h | h
              · exact HM1.out q h
              · rcases hm4 q h with h | h
                · exact HM1.out q (HSUB.out q h)
                · exact .inr (Nat.le_trans HKV.out.size h)
            have HJ4 := Lib.hid hj4; clear hj4
            have HK4 := Lib.hid hk4; clear hk4
            have HM4 := Lib.hid hm4; clear hm4
            have HW4 := Lib.hid hw4; clear hw4
            have HC4 := Lib.hid hc4; clear hc4
            have HTK := Lib.hid htk; clear htk
            gi_wp2_with fail
            go_roundw
            case rel => exact ⟨k + 1, M2, Ms ++ M2, by omega, by go_num, HJ4.out, HW4.out, fun q hq => by simp [hq], HC4.out⟩
            case measure => simp [intOf]; omega
          · have HJX' := Lib.hid hjx; clear hjx
            have HTK := Lib.hid htk; clear htk
            gi_wp2_with fail
            refine bodyPost_ret (results_none rfl _ _ _) rfl ?_
            exact ⟨⟨_, rfl⟩, .inr ⟨_, by rw [HTK.out]; exact List.take_prefix _ _, HJX'.out⟩⟩
    · have hkT : k = T := by omega
      have hall : (subsL ms).take k = subsL ms := List.take_of_length_le (by rw [subs_len, ← HLEN.out, ← HT.out]; omega)
      rw [hall] at hj
      have HJ := Lib.hid hj; clear hj
      have HKW := Lib.hid hkw; clear hkw
      have HSUB := Lib.hid hsub; clear hsub
      have HM1 := Lib.hid hM1; clear hM1
      have HS1 := Lib.hid hs1; clear hs1
      have HALL := Lib.hid hall; clear hall
      gi_wp2_with fail
      go_end0
      exact ⟨⟨_, rfl⟩, .inl ⟨M1, HJ.out⟩⟩
end Go.Proofs.YtdkjanbfheehoaaGreat
/- Contract: stable.minimal. -/
namespace Go.Proofs.YtdkjanbfheehoaaGreat
open Go.RowKit Go.Shelf
attribute [local go_sem] Oper.semAt_some

set_option maxRecDepth 100000 in
set_option maxHeartbeats 1000000 in
theorem subsets_any (mA : Option Addr) (ml mc : Nat) (w : World) :
    Calls Tryz.prog 31 #[.slice mA ml mc] w fun e w' => e = .returned (.func (.func 67) #[] #[.pointer (some ⟨w.heap.size, 0, none⟩)]) ∧ w' = w.alloc (.cells #[.slice mA ml mc] 23) := by
  go_enter Tryz.func31, Tryz.ntmps31
  go_wp2
  go_ret
  exact ⟨rfl, rfl⟩
/-- A single result out of a cell. -/
theorem results_cell_one {P : Program} {fn : Func} {p : Tmp} {ty : TypeId} (h : fn.results = #[.cell p ty]) (tmps : Array Value) (w : World) (g : Nat) (v : Value)
    (hp : tmps.getD p undef = .pointer (some ⟨g, 0, none⟩)) (hl : (loadVar ty ⟨g, 0, none⟩).run P w = .ok v w) : (results fn tmps).run P w = .ok v w := by
  have hp' : tmps[p]?.getD undef = .pointer (some ⟨g, 0, none⟩) := by simpa using hp
  simp [results, h, hp', asAddr, hl]
theorem load_bool {w : World} {g : Nat} {b : Bool} (h : Blk w g 4 #[.bool b]) : (loadVar 4 ⟨g, 0, none⟩).run Tryz.prog w = .ok (.bool b) w := by
  have hc : w.cell? ⟨g, 0, none⟩ = some (.bool b) := h.cell 0
  simp [loadVar, hc, go_sem]
/-- What minimal answers, rules read as the program reads them. -/
def satCL (rs : List GRule) (s : List Int) : Bool := rs.all fun r => satC r s
def minC (rs : List GRule) (m : List Int) : Bool := match (subsL m).find? (satCL rs) with
  | some s => decide (s.length = m.length)
  | none => false
/-- While the subsets come: none has satisfied the rules. -/
def MinI (w : World) (rA : Option Addr) (rl rc : Nat) (mA : Option Addr) (ml mc : Nat) (rs : List GRule) (M : List Nat) (pre : List (List Int)) (W : World) : Prop :=
  M = [w.heap.size + 1 + 1] ∧ (∀ s ∈ pre, satCL rs s = false) ∧ Blk W w.heap.size 24 #[.slice rA rl rc] ∧ Blk W (w.heap.size + 1) 23 #[.slice mA ml mc] ∧ Blk W (w.heap.size + 1 + 1) 4 #[.bool false] ∧ Below w.heap.size w W
/-- One has: the answer is laid. -/
def MinX (w : World) (rs : List GRule) (ml : Nat) (c : Code) (pre : List (List Int)) (W : World) : Prop :=
  c = .ret ∧ (∃ p s, pre = p ++ [s] ∧ (∀ x ∈ p, satCL rs x = false) ∧ satCL rs s = true ∧ Blk W (w.heap.size + 1 + 1) 4 #[.bool (decide (s.length = ml))]) ∧ Below w.heap.size w W
theorem MinI.bel {w : World} {rA : Option Addr} {rl rc : Nat} {mA : Option Addr} {ml mc : Nat} {rs : List GRule} {M : List Nat} {pre : List (List Int)} {A B : World} (h : MinI w rA rl rc mA ml mc rs M pre A) (hb : Below A.heap.size A B) : MinI w rA rl rc mA ml mc rs M pre B :=
  ⟨h.1, h.2.1, h.2.2.1.bel hb, h.2.2.2.1.bel hb, h.2.2.2.2.1.bel hb, bel_trans h.2.2.2.2.2 hb⟩
theorem MinX.bel {w : World} {rs : List GRule} {ml : Nat} {c : Code} {pre : List (List Int)} {A B : World} (h : MinX w rs ml c pre A) (hb : Below A.heap.size A B) : MinX w rs ml c pre B := by
  obtain ⟨h1, ⟨p, s, e, h2, h3, h4⟩, h5⟩ := h
  exact ⟨h1, ⟨p, s, e, h2, h3, h4.bel hb⟩, bel_trans h5 hb⟩
theorem blk_keep {A B : World} {k g : Nat} {t : TypeId} {cs : Array Value} (h : Blk A g t cs) (hn : ∀ o, A.heap[k]? = some o → o.isCells = false) (hk : Kept [k] A B) : Blk B g t cs :=
  hk.blk h (by have := blk_ne h hn; simp; omega)
theorem MinI.keep {w : World} {rA : Option Addr} {rl rc : Nat} {mA : Option Addr} {ml mc : Nat} {rs : List GRule} {M : List Nat} {pre : List (List Int)} {A B : World} {k : Nat} (hw : w.heap.size ≤ k) (h : MinI w rA rl rc mA ml mc rs M pre A) (hn : ∀ o, A.heap[k]? = some o → o.isCells = false) (hk : Kept [k] A B) : MinI w rA rl rc mA ml mc rs M pre B :=
  ⟨h.1, h.2.1, blk_keep h.2.2.1 hn hk, blk_keep h.2.2.2.1 hn hk, blk_keep h.2.2.2.2.1 hn hk, Kept.below h.2.2.2.2.2 hk h.2.2.2.2.2.size (fun q hq => by simp at hq; omega)⟩
theorem MinX.keep {w : World} {rs : List GRule} {ml : Nat} {c : Code} {pre : List (List Int)} {A B : World} {k : Nat} (hw : w.heap.size ≤ k) (h : MinX w rs ml c pre A) (hn : ∀ o, A.heap[k]? = some o → o.isCells = false) (hk : Kept [k] A B) : MinX w rs ml c pre B := by
  obtain ⟨h1, ⟨p, s, e, h2, h3, h4⟩, h5⟩ := h
  exact ⟨h1, ⟨p, s, e, h2, h3, blk_keep h4 hn hk⟩, Kept.below h5 hk h5.size (fun q hq => by simp at hq; omega)⟩
set_option maxRecDepth 100000 in
set_option maxHeartbeats 4000000 in
theorem minimal_any (rA : Option Addr) (rl rc : Nat) (rs : List GRule) (mA : Option Addr) (ml mc : Nat) (ms : List Int) (w : World) (h : SlIs ruleR w rA rl rc rs) (hm : SlIs intR w mA ml mc ms) (hl : ml ≤ 12) :
    Calls Tryz.prog 70 #[.slice rA rl rc, .slice mA ml mc] w fun e w' => e = .returned (.bool (minC rs ms)) ∧ Below w.heap.size w w' := by
  have hmc := hm.cap
  have hmm := hm.max
  have H := Lib.hid h; clear h
  have HM := Lib.hid hm; clear hm
  refine (callsIn_wide (n := 5)).1 ?_
  refine callsIn_of_wp_marks Tryz.func70 rfl trivial ?_ rfl
  simp only [Tryz.ntmps70, List.size_toArray, List.length_cons, List.length_nil, Nat.reduceAdd, Nat.reduceSub, Array.replicate_succ, Array.replicate_zero, List.push_toArray, List.append_toArray, List.nil_append, List.cons_append]
  gi_wp2_with fail
  refine ⟨trivial, ?_⟩
  refine (callsIn_wide.2 (subsets_any mA ml mc _)).mono ?_
  rintro e w1 ⟨rfl, rfl⟩
  gi_wp2_with fail
  have hW : Blk ((((w.alloc (.cells #[.slice rA rl rc] 24)).alloc (.cells #[.slice mA ml mc] 23)).alloc (.cells #[.bool false] 4)).alloc (.cells #[.slice mA ml mc] 23)) w.heap.size 24 #[.slice rA rl rc] ∧ Blk ((((w.alloc (.cells #[.slice rA rl rc] 24)).alloc (.cells #[.slice mA ml mc] 23)).alloc (.cells #[.bool false] 4)).alloc (.cells #[.slice mA ml mc] 23)) (w.heap.size + 1) 23 #[.slice mA ml mc] ∧ Blk ((((w.alloc (.cells #[.slice rA rl rc] 24)).alloc (.cells #[.slice mA ml mc] 23)).alloc (.cells #[.bool false] 4)).alloc (.cells #[.slice mA ml mc] 23)) (w.heap.size + 1 + 1) 4 #[.bool false] ∧ Blk ((((w.alloc (.cells #[.slice rA rl rc] 24)).alloc (.cells #[.slice mA ml mc] 23)).alloc (.cells #[.bool false] 4)).alloc (.cells #[.slice mA ml mc] 23)) (w.heap.size + 1 + 1 + 1) 23 #[.slice mA ml mc] ∧ Below w.heap.size w ((((w.alloc (.cells #[.slice rA rl rc] 24)).alloc (.cells #[.slice mA ml mc] 23)).alloc (.cells #[.bool false] 4)).alloc (.cells #[.slice mA ml mc] 23)) ∧ ((((w.alloc (.cells #[.slice rA rl rc] 24)).alloc (.cells #[.slice mA ml mc] 23)).alloc (.cells #[.bool false] 4)).alloc (.cells #[.slice mA ml mc] 23)).heap.size = w.heap.size + 1 + 1 + 1 + 1 :=
    ⟨(((blk_new rfl _ _).alloc _).alloc _).alloc _, ((blk_new (by simp) _ _).alloc _).alloc _, (blk_new (by simp) _ _).alloc _, blk_new (by simp) _ _, bel_trans (bel_trans (bel_trans (bel_alloc _ _) (bel_alloc _ _)) (bel_alloc _ _)) (bel_alloc _ _), by simp⟩
  generalize ((((w.alloc (.cells #[.slice rA rl rc] 24)).alloc (.cells #[.slice mA ml mc] 23)).alloc (.cells #[.bool false] 4)).alloc (.cells #[.slice mA ml mc] 23)) = W3 at *
  obtain ⟨e1, e2, e3, e4, e5, e6⟩ := hW
  have hml := HM.out.len
  refine wpIn_rangeM rfl (by omega) (gf := 67) (lb := #[.pointer (some ⟨w.heap.size + 1 + 1 + 1, 0, none⟩)]) rfl trivial (enters_of Tryz.func67 (by kernel_rfl) rfl)
    (sub1_iter 4 (by omega) (w.heap.size + 1 + 1 + 1) mA ml mc ms [w.heap.size + 1 + 1] W3
      (fun M W hM hk => ⟨hk.cell (e4.cell 0) (fun hq => by rcases hM _ hq with h | h <;> simp at h <;> omega), (HM.out.ext e5).keptM hk (fun h0 ad e hq => by
        have h1 := HM.out.blk_lt h0 e
        rcases hM _ hq with h | h
        · simp at h; omega
        · omega)⟩) hl)
    (fun _ _ _ _ h => h.size) (fun _ _ _ _ _ _ h hs hk => h.go hs hk) (MinI w rA rl rc mA ml mc rs) (MinX w rs ml)
    (fun _ _ _ _ h hb => h.bel hb) (fun _ _ _ _ h hb => h.bel hb) (fun _ _ _ _ _ hk0 h hn hk => h.keep (Nat.le_trans e5.size hk0) hn hk) (fun _ _ _ _ _ hk0 h hn hk => h.keep (Nat.le_trans e5.size hk0) hn hk)
    (fun M pre W h k hk => by
      obtain ⟨rfl, _, _, _, h3, _⟩ := h
      simp at hk; subst hk
      exact ⟨_, h3, rfl⟩)
    ⟨rfl, by simp, e1, e2, e3, e5⟩
    (fun x args a' W => ∃ (A : Option Addr) (l c : Nat), args = #[.slice A l c] ∧ a' = { tmps := #[.slice rA rl rc, .slice mA ml mc, .pointer (some ⟨w.heap.size, 0, none⟩), .pointer (some ⟨w.heap.size + 1, 0, none⟩), .pointer (some ⟨w.heap.size + 1 + 1, 0, none⟩), .slice A l c, .slice mA ml mc, .func (.func 67) #[] #[.pointer (some ⟨w.heap.size + 1 + 1 + 1, 0, none⟩)], .slice A l c, undef, undef, undef, undef, undef, undef, undef, undef], defers := [] })
    (fun _ _ _ _ _ _ h _ _ => h)
    ?assign ?body ?done ?stop
  case assign =>
    intro l M pre x args W K hi hg hK
    obtain ⟨A, l', c, rfl, hs, ho⟩ := hg
    have HI := Lib.hid hi; clear hi
    have HS := Lib.hid hs; clear hs
    have HO := Lib.hid ho; clear ho
    have E1 := Lib.hid e1; clear e1
    have E2 := Lib.hid e2; clear e2
    have E3 := Lib.hid e3; clear e3
    have E4 := Lib.hid e4; clear e4
    have E5 := Lib.hid e5; clear e5
    have E6 := Lib.hid e6; clear e6
    have HML := Lib.hid hml; clear hml
    gi_wp2
    exact hK _ _ (Below.refl _ _) ⟨A, l', c, rfl, rfl⟩
  case body =>
    rintro l M pre x args a' W ⟨rfl, hpre, b1, b2, b3, hw⟩ hpf ⟨A, l', c, rfl, hs, ho⟩ ⟨A2, l2, c2, he, rfl⟩
    simp at he
    obtain ⟨rfl, rfl, rfl⟩ := he
    have k0 : W.cell? ⟨w.heap.size, 0, none⟩ = some (.slice rA rl rc) := b1.cell 0
    have cS := satisfies_any rA rl rc rs A l' c x W (H.out.ext hw) hs
    have hxl := hs.len
    have hxc := hs.cap
    have hxm := hs.max
    change Calls _ _ _ _ fun e w' => e = .returned (.bool (satCL rs x)) ∧ Below W.heap.size W w' at cS
    cases hsat : satCL rs x with
    | false =>
      rw [hsat] at cS
      have HPRE := Lib.hid hpre; clear hpre
      have B1 := Lib.hid b1; clear b1
      have B2 := Lib.hid b2; clear b2
      have B3 := Lib.hid b3; clear b3
      have HW := Lib.hid hw; clear hw
      have HPF := Lib.hid hpf; clear hpf
      have HS := Lib.hid hs; clear hs
      have HO := Lib.hid ho; clear ho
      have CS := Lib.hid cS; clear cS
      have HSAT := Lib.hid hsat; clear hsat
      have E1 := Lib.hid e1; clear e1
      have E2 := Lib.hid e2; clear e2
      have E3 := Lib.hid e3; clear e3
      have E4 := Lib.hid e4; clear e4
      have E5 := Lib.hid e5; clear e5
      have E6 := Lib.hid e6; clear e6
      have HXL := Lib.hid hxl; clear hxl
      have HML := Lib.hid hml; clear hml
      gi_wp2_with fail
      refine ⟨trivial, ?_⟩
      refine (callsIn_wide.2 CS.out).mono ?_
      rintro e w2 ⟨rfl, hb2⟩
      have HB2 := Lib.hid hb2
      clear hb2
      gi_wp2_with fail
      exact ⟨_, ⟨rfl, fun s hs => by
        rcases List.mem_append.1 hs with h | h
        · exact HPRE.out s h
        · simp at h; subst h; exact HSAT.out, B1.out.bel HB2.out, B2.out.bel HB2.out, B3.out.bel HB2.out, bel_trans HW.out HB2.out⟩, Kept.of_below HB2.out _, fun k hk => .inl hk⟩
    | true =>
      rw [hsat] at cS
      have HPRE := Lib.hid hpre; clear hpre
      have B1 := Lib.hid b1; clear b1
      have B2 := Lib.hid b2; clear b2
      have B3 := Lib.hid b3; clear b3
      have HW := Lib.hid hw; clear hw
      have HPF := Lib.hid hpf; clear hpf
      have HS := Lib.hid hs; clear hs
      have HO := Lib.hid ho; clear ho
      have CS := Lib.hid cS; clear cS
      have HSAT := Lib.hid hsat; clear hsat
      have E1 := Lib.hid e1; clear e1
      have E2 := Lib.hid e2; clear e2
      have E3 := Lib.hid e3; clear e3
      have E4 := Lib.hid e4; clear e4
      have E5 := Lib.hid e5; clear e5
      have E6 := Lib.hid e6; clear e6
      have HXL := Lib.hid hxl; clear hxl
      have HML := Lib.hid hml; clear hml
      gi_wp2_with fail
      refine ⟨trivial, ?_⟩
      refine (callsIn_wide.2 CS.out).mono ?_
      rintro e w2 ⟨rfl, hb2⟩
      have d2 := B2.out.bel hb2
      have d3 := B3.out.bel hb2
      have k1 : w2.cell? ⟨w.heap.size + 1, 0, none⟩ = some (.slice mA ml mc) := d2.cell 0
      have k2 : w2.cell? ⟨w.heap.size + 1 + 1, 0, none⟩ = some (.bool false) := d3.cell 0
      have k3 : w2.frozen? ⟨w.heap.size + 1 + 1, 0, none⟩ = false := d3.frozen 0
      have hbe : ((l' : Int) == (ml : Int)) = decide (x.length = ml) := by rw [HXL.out, Bool.eq_iff_iff]; simp; omega
      have HB2 := Lib.hid hb2
      clear hb2
      have D2 := Lib.hid d2; clear d2
      have D3 := Lib.hid d3; clear d3
      have HBE := Lib.hid hbe; clear hbe
      gi_wp2_with fail
      refine ⟨⟨rfl, ⟨pre, x, rfl, HPRE.out, HSAT.out, ?_⟩, ?_⟩, ?_⟩
      · rw [HBE.out]; exact D3.out.set_ 0 _
      · exact Kept.below (bel_trans HW.out HB2.out) ((Kept.refl [w.heap.size + 1 + 1] w2).set (.inl (by simp)) _) (bel_trans HW.out HB2.out).size (fun q hq => by simp at hq; omega)
      · exact (Kept.of_below HB2.out _).set (.inl (by simp)) _
  case done =>
    intro D M W hD hi hdf
    obtain ⟨rfl, hpre, b1, b2, b3, hw⟩ := hi
    have hn : ∀ o, W.heap[D]? = some o → o.isCells = false := fun o h => by rw [hdf] at h; cases h; rfl
    have k2 : W.cell? ⟨w.heap.size + 1 + 1, 0, none⟩ = some (.bool false) := b3.cell 0
    have k3 : W.frozen? ⟨w.heap.size + 1 + 1, 0, none⟩ = false := b3.frozen 0
    have hDn : D ≠ w.heap.size + 1 + 1 := blk_ne b3 hn
    have hdf2 : (W.setCell ⟨w.heap.size + 1 + 1, 0, none⟩ (.bool false)).heap[D]? = some (.deferred (some [])) := (Below.heap_setCell W ⟨w.heap.size + 1 + 1, 0, none⟩ _ D hDn).trans hdf
    have hk1 : Kept [w.heap.size + 1 + 1] W (W.setCell ⟨w.heap.size + 1 + 1, 0, none⟩ (.bool false)) := (Kept.refl _ _).set (.inl (by simp)) _
    have hb4 : Blk (W.setCell ⟨w.heap.size + 1 + 1, 0, none⟩ (.bool false)) (w.heap.size + 1 + 1) 4 #[.bool false] := b3.set_ 0 _
    have hkD := kept_putObj (W.setCell ⟨w.heap.size + 1 + 1, 0, none⟩ (.bool false)) D (.deferred none)
    have hb5 : Blk ((W.setCell ⟨w.heap.size + 1 + 1, 0, none⟩ (.bool false)).putObj D (.deferred none)) (w.heap.size + 1 + 1) 4 #[.bool false] := hkD.blk hb4 (by simp; omega)
    have hbf : Below w.heap.size w ((W.setCell ⟨w.heap.size + 1 + 1, 0, none⟩ (.bool false)).putObj D (.deferred none)) := Kept.below (Kept.below hw hk1 hw.size (fun q hq => by simp at hq; omega)) hkD (Nat.le_trans hw.size hk1.size) (fun q hq => by simp at hq; have := e5.size; omega)
    have hmin : minC rs ms = false := by
      unfold minC
      rw [List.find?_eq_none.2 fun s hs => by rw [hpre s hs]; simp]
    have HPRE := Lib.hid hpre; clear hpre
    have B1 := Lib.hid b1; clear b1
    have B2 := Lib.hid b2; clear b2
    have B3 := Lib.hid b3; clear b3
    have HW := Lib.hid hw; clear hw
    have HN := Lib.hid hn; clear hn
    have E1 := Lib.hid e1; clear e1
    have E2 := Lib.hid e2; clear e2
    have E3 := Lib.hid e3; clear e3
    have E4 := Lib.hid e4; clear e4
    have E5 := Lib.hid e5; clear e5
    have E6 := Lib.hid e6; clear e6
    have HML := Lib.hid hml; clear hml
    have HDF2 := Lib.hid hdf2; clear hdf2
    have HK1 := Lib.hid hk1; clear hk1
    have HB4 := Lib.hid hb4; clear hb4
    have HKD := Lib.hid hkD; clear hkD
    have HB5 := Lib.hid hb5; clear hb5
    have HBF := Lib.hid hbf; clear hbf
    have HMIN := Lib.hid hmin; clear hmin
    have HDF := Lib.hid hdf
    clear hdf
    gi_wp2_with fail
    refine ⟨by simp, .inl ⟨_, _, rfl, run_takeDeferred HDF2.out, ?_⟩⟩
    exact ⟨_, results_cell_one rfl _ _ (w.heap.size + 1 + 1) (.bool false) rfl (load_bool HB5.out), by rw [HMIN.out], HBF.out⟩
  case stop =>
    intro D c pre W hD hpre hx hdf
    obtain ⟨rfl, ⟨p, s, rfl, hp1, hp2, b3⟩, hw⟩ := hx
    have hn : ∀ o, W.heap[D]? = some o → o.isCells = false := fun o h => by rw [hdf] at h; cases h; rfl
    have hDn : D ≠ w.heap.size + 1 + 1 := blk_ne b3 hn
    have hkD := kept_putObj W D (.deferred none)
    have hb5 : Blk (W.putObj D (.deferred none)) (w.heap.size + 1 + 1) 4 #[.bool (decide (s.length = ml))] := hkD.blk b3 (by simp; omega)
    have hbf : Below w.heap.size w (W.putObj D (.deferred none)) := Kept.below hw hkD hw.size (fun q hq => by simp at hq; have := e5.size; omega)
    have hmin : minC rs ms = decide (s.length = ml) := by
      obtain ⟨t, ht⟩ := hpre
      have hf : (subsL ms).find? (satCL rs) = some s := List.find?_eq_some_iff_append.2 ⟨hp2, p, t, by rw [← ht]; simp, fun x hx => by rw [hp1 x hx]; rfl⟩
      unfold minC
      rw [hf, hml]
    have HPRE := Lib.hid hpre; clear hpre
    have B3 := Lib.hid b3; clear b3
    have HW := Lib.hid hw; clear hw
    have HN := Lib.hid hn; clear hn
    have E1 := Lib.hid e1; clear e1
    have E2 := Lib.hid e2; clear e2
    have E3 := Lib.hid e3; clear e3
    have E4 := Lib.hid e4; clear e4
    have E5 := Lib.hid e5; clear e5
    have E6 := Lib.hid e6; clear e6
    have HML := Lib.hid hml; clear hml
    have HKD := Lib.hid hkD; clear hkD
    have HB5 := Lib.hid hb5; clear hb5
    have HBF := Lib.hid hbf; clear hbf
    have HMIN := Lib.hid hmin; clear hmin
    have HP1 := Lib.hid hp1; clear hp1
    have HP2 := Lib.hid hp2; clear hp2
    have HDF := Lib.hid hdf
    clear hdf
    gi_wp2_with fail
    refine ⟨by simp, .inl ⟨_, _, rfl, run_takeDeferred HDF.out, ?_⟩⟩
    exact ⟨_, results_cell_one rfl _ _ (w.heap.size + 1 + 1) (.bool (decide (s.length = ml))) rfl (load_bool HB5.out), by rw [HMIN.out], HBF.out⟩
end Go.Proofs.YtdkjanbfheehoaaGreat

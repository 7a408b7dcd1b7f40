/- Contracts: reduct.Set, member, holds, body, Body. -/
import Derived.Test.YtcbkkjcleiibfaaRf3
import Derived.Test.YtcbkkjcleiibfaaMap
import Derived.Test.YtcbkkjcleiibfaaHof
namespace Go.Proofs.Ytcbkkjcleiibfaa
open Go.RowKit Go.Maps Go.WideMaps

set_option maxRecDepth 100000 in
set_option maxHeartbeats 2000000 in
theorem set_any (lA : Option Addr) (ll lc : Nat) (xs : List Int) (n : Int) (w : World) (h : SlIs intR w lA ll lc xs) :
    Calls Try.prog 23 #[.slice lA ll lc, .int .i64 n] w fun e w' => e = .returned (.bool (incB n xs)) ∧ w = w' := by
  have hl := h.cap
  have hm := h.max
  have H := Lib.hid h; clear h
  go_enter Try.func23, Try.ntmps23
  go_wp2
  go_loop [9] (fun i => ∃ k : Nat, k ≤ ll ∧ i = .int .i64 k ∧ incB n xs = atomsGo n (prevAt xs k) (xs.drop k)) (fun i => ll - (intOf i).toNat)
  case atStart => exact ⟨0, Nat.zero_le _, rfl, incB_atoms _ _⟩
  case round =>
    obtain ⟨k, hk, rfl, hs⟩ := hrel
    have HS := Lib.hid hs; clear hs
    by_cases hlt : k < ll
    · obtain ⟨x, hx, hd⟩ := H.out.drop hlt
      obtain ⟨b, off, rfl, _, hcell, _⟩ := H.out.int hx
      have HX := Lib.hid hx; clear hx
      have HD := Lib.hid hd; clear hd
      by_cases h1 : x < 1
      · go_wp2_with fail
        go_ret
        exact ⟨ret_bool (by rw [HS.out, HD.out, atomsGo_cons, decide_eq_false (show ¬ 1 ≤ x by omega)]; simp), rfl⟩
      · by_cases h2 : n < x
        · go_wp2_with fail
          go_ret
          exact ⟨ret_bool (by rw [HS.out, HD.out, atomsGo_cons, decide_eq_false (show ¬ x ≤ n by omega)]; simp), rfl⟩
        · by_cases hk0 : k = 0
          · have q1 : decide (0 < (k : Int)) = false := decide_eq_false (by omega)
            have q2 : decide (0 < k) = false := decide_eq_false (by omega)
            have HK := Lib.hid hk0
            clear hk0
            go_wp2_with fail
            go_round
            case rel => exact ⟨k + 1, by omega, by go_num, by rw [HS.out, HD.out, atomsGo_cons, decide_eq_true (show 1 ≤ x by omega), decide_eq_true (show x ≤ n by omega), prevAt_succ, HX.out, HK.out]; rfl⟩
            case measure => simp [intOf]; omega
          · obtain ⟨j, rfl⟩ : ∃ j, k = j + 1 := ⟨k - 1, by omega⟩
            obtain ⟨y, hy, _⟩ := H.out.drop (k := j) (by omega)
            obtain ⟨b2, off2, he2, _, hcell2, _⟩ := H.out.int hy
            cases he2
            have HYY := Lib.hid hy; clear hy
            have e1 : IntKind.i64.wrap ((j : Int) + 1 - 1) = j := by rw [IntWalk.i64_in _ (by omega)]; omega
            have q1 : decide (0 < (j : Int) + 1) = true := decide_eq_true (by omega)
            have q2 : decide (0 < j + 1) = true := decide_eq_true (by omega)
            by_cases h3 : x ≤ y
            · go_wp2_with fail
              go_ret
              exact ⟨ret_bool (by rw [HS.out, HD.out, atomsGo_cons, prevAt_succ, HYY.out]; have : ¬ y < x := (by omega); simp [this]), rfl⟩
            · go_wp2_with fail
              go_round
              case rel => exact ⟨j + 2, by omega, by go_num, by rw [HS.out, HD.out, atomsGo_cons, decide_eq_true (show 1 ≤ x by omega), decide_eq_true (show x ≤ n by omega), prevAt_succ, HYY.out, prevAt_succ, HX.out]; have : y < x := (by omega); simp [this]⟩
              case measure => simp [intOf]; omega
    · go_wp2
      go_ret
      exact ⟨ret_bool (by rw [HS.out, H.out.stop (by omega)]; rfl), rfl⟩

/-- The cell at block a holds a map whose keys are the atoms of ms. -/
def MemIn (w : World) (a : Nat) (ms : List Int) : Prop :=
  ∃ B n f, w.cell? ⟨a, 0, none⟩ = some (.map (some B)) ∧ IMap w 3 B n f ∧ ∀ x, decide (0 < f (.int .i64 x)) = decide (x ∈ ms)
theorem MemIn.ext {w w' : World} {a : Nat} {ms : List Int} (h : MemIn w a ms) (hb : Below w.heap.size w w') : MemIn w' a ms := by
  obtain ⟨B, n, f, h1, h2, h3⟩ := h
  exact ⟨B, n, f, (hb.cell (World.block_lt_of_cell? w _ h1)).trans h1, h2.ext hb, h3⟩
theorem run_makeMap_hint {P : Program} (t k e : TypeId) (kd : IntKind) (n : Int) (ht : P.underlying t = some (.map k e)) (w : World) :
    (Instr.makeMap t (some (.int kd n))).run P w = .ok (.map (some w.heap.size)) (w.alloc (.map #[] 0)) := by
  simp [Instr.makeMap, run_underlying ht]; rfl
theorem key_of_int {x : Int} (h : I64 x) : keyOf Try.prog 3 (.int .i64 x) = some (.int .i64 x) := keyOf_int_mk Try.underlying3 (WalkArith.wf_i64 (by unfold I64 at h; omega))

set_option maxRecDepth 100000 in
set_option maxHeartbeats 2000000 in
theorem member_any (lA : Option Addr) (ll lc : Nat) (xs : List Int) (w : World) (h : SlIs intR w lA ll lc xs) :
    Calls Try.prog 39 #[.slice lA ll lc] w fun e w' => ∃ a : Nat, e = .returned (.func (.func 62) #[] #[.pointer (some ⟨a, 0, none⟩)]) ∧ MemIn w' a xs ∧ Below w.heap.size w w' := by
  have hl := h.cap
  have hm := h.max
  have hsm := h.small
  have hmm := fun W => run_makeMap_hint (P := Try.prog) 89 3 3 .i64 ll Try.underlying89 W
  have H := Lib.hid h; clear h
  go_enter Try.func39, Try.ntmps39
  go_wp2_with fail
  have hstart : IMap ((w.alloc (.map #[] 0)).alloc (.cells #[.map (some w.heap.size)] 89)) 3 w.heap.size 0 (fun _ => 0) := (IMap.new w 3).ext (bel_alloc _ _)
  have HSTART := Lib.hid hstart; clear hstart
  go_loopw [11] (fun i wr => ∃ (k : Nat) (f : Lit → Int), k ≤ ll ∧ i = .int .i64 k ∧ Below w.heap.size w wr ∧ IMap wr 3 w.heap.size k f ∧ wr.cell? ⟨w.heap.size + 1, 0, none⟩ = some (.map (some w.heap.size)) ∧ (∀ x, 0 ≤ f (.int .i64 x) ∧ f (.int .i64 x) ≤ k) ∧ ∀ x, decide (0 < f (.int .i64 x)) = decide (x ∈ xs.take k)) (fun i _ => ll - (intOf i).toNat)
  case atStart => exact ⟨0, fun _ => 0, Nat.zero_le _, rfl, bel_alloc2 _ _ _, HSTART.out, by simp, by simp, by simp⟩
  case round =>
    obtain ⟨k, f, hk, rfl, hbw, hmap, hcl, hfb, hf⟩ := hrel
    have H1 := Lib.hid (H.out.ext hbw)
    by_cases hlt : k < ll
    · obtain ⟨x, hx, hd⟩ := H.out.drop hlt
      obtain ⟨b, off, rfl, _, hcell, hx64⟩ := H1.out.int hx
      have hkey := key_of_int hx64
      have hlk := hmap.look key_int Try.underlying89 hkey trivial
      have hfx := hfb x
      obtain ⟨w', f', hput, hmap', hfe, hfn, hgr⟩ := hmap.put key_int Try.underlying89 hkey trivial (by unfold maxLen; omega) (f (.int .i64 x) + 1) (WalkArith.wf_i64 (by omega))
      have hcl' := hgr.cell hcl (by simp)
      have hbw' := bel_grown hbw hgr hbw.size (fun j hj => by cases hj; exact Nat.le_refl _)
      have htk : ∀ z, (z ∈ xs.take (k + 1)) ↔ (z ∈ xs.take k ∨ z = x) := by
        intro z
        rw [List.take_add_one, hx]; simp
      have HX := Lib.hid hx; clear hx
      have HD := Lib.hid hd; clear hd
      have HX64 := Lib.hid hx64; clear hx64
      have HKEY := Lib.hid hkey; clear hkey
      have HBW := Lib.hid hbw; clear hbw
      have HMAP := Lib.hid hmap; clear hmap
      have HFB := Lib.hid hfb; clear hfb
      have HF := Lib.hid hf; clear hf
      have HMAP' := Lib.hid hmap'; clear hmap'
      have HFE := Lib.hid hfe; clear hfe
      have HFN := Lib.hid hfn; clear hfn
      have HGR := Lib.hid hgr; clear hgr
      have HCL' := Lib.hid hcl'; clear hcl'
      have HBW' := Lib.hid hbw'; clear hbw'
      have HTK := Lib.hid htk; clear htk
      go_wp2_with fail
      go_roundw
      case rel =>
        refine ⟨k + 1, f', by omega, by go_num, HBW'.out, HMAP'.out, HCL'.out, fun z => ?_, fun z => ?_⟩
        · by_cases he : z = x
          · subst he
            rw [HFE.out]; omega
          · have := HFB.out z
            rw [HFN.out _ (fun hh => he (by injection hh))]; omega
        · by_cases he : z = x
          · subst he
            rw [HFE.out, decide_eq_true (by omega), decide_eq_true ((HTK.out z).2 (.inr rfl))]
          · rw [HFN.out _ (fun hh => he (by injection hh)), HF.out z, Bool.eq_iff_iff]
            simp only [decide_eq_true_eq, HTK.out z, he, or_false]
      case measure => simp [intOf]; omega
    · have hfin : MemIn wr (w.heap.size + 1) xs := ⟨_, _, f, hcl, hmap, fun x => by rw [hf x, List.take_of_length_le (by rw [← H.out.len]; omega)]⟩
      have HBW := Lib.hid hbw; clear hbw
      have HMAP := Lib.hid hmap; clear hmap
      have HFB := Lib.hid hfb; clear hfb
      have HF := Lib.hid hf; clear hf
      have HFIN := Lib.hid hfin; clear hfin
      go_wp2_with fail
      refine bodyPost_ret (results_tmp rfl _ _ _) rfl ?_
      exact ⟨_, rfl, HFIN.out, HBW.out⟩

set_option maxHeartbeats 1000000 in
theorem memberF_any (x : Int) (a : Nat) (ms : List Int) (w : World) (h : MemIn w a ms) (hx : I64 x) :
    Calls Try.prog 62 #[.int .i64 x, .pointer (some ⟨a, 0, none⟩)] w fun e w' => e = .returned (.bool (decide (x ∈ ms))) ∧ w = w' := by
  obtain ⟨B, n, f, hcell, hmap, hf⟩ := h
  have hlk := hmap.look key_int Try.underlying89 (key_of_int hx) trivial
  have hfx := hf x
  generalize f (.int .i64 x) = q at *
  have HMAP := Lib.hid hmap; clear hmap
  have HF := Lib.hid hf; clear hf
  have HX := Lib.hid hx; clear hx
  have HFX := Lib.hid hfx; clear hfx
  go_enter Try.func62, Try.ntmps62
  go_wp2_with fail
  all_goals go_ret
  all_goals exact ⟨ret_bool (by rw [← HFX.out] <;> first | exact (decide_eq_true (by omega)).symm | exact (decide_eq_false (by omega)).symm), rfl⟩

set_option maxHeartbeats 1000000 in
theorem holds_any (x : Int) (a : Nat) (ms : List Int) (w : World) (h : MemIn w a ms) (hx : -9223372036854775808 < x) (hx2 : x ≤ 9223372036854775807) :
    Calls Try.prog 66 #[.int .i64 x, .func (.func 62) #[] #[.pointer (some ⟨a, 0, none⟩)]] w fun e w' => e = .returned (.bool (trueB x ms)) ∧ w = w' := by
  by_cases h0 : 0 < x
  · have hc := memberF_any x a ms w h ⟨by omega, by omega⟩
    have HC := Lib.hid hc; clear hc
    have H := Lib.hid h; clear h
    go_enter Try.func66, Try.ntmps66
    go_wp2_with fail
    go_fit HC.out; rintro e w' ⟨rfl, rfl⟩
    go_wp2_with fail
    go_ret
    exact ⟨ret_bool (by unfold trueB; rw [if_pos h0]), rfl⟩
  · have hc := memberF_any (-x) a ms w h ⟨by omega, by omega⟩
    have HC := Lib.hid hc; clear hc
    have H := Lib.hid h; clear h
    go_enter Try.func66, Try.ntmps66
    go_wp2_with fail
    go_fit HC.out; rintro e w' ⟨rfl, rfl⟩
    go_wp2_with fail
    go_ret
    exact ⟨ret_bool (by unfold trueB; rw [if_neg (by omega)]), rfl⟩

set_option maxHeartbeats 1000000 in
theorem bodyF_any (x : Int) (a b : Nat) (ms : List Int) (w : World) (h : MemIn w a ms) (hb : w.cell? ⟨b, 0, none⟩ = some (.func (.func 62) #[] #[.pointer (some ⟨a, 0, none⟩)])) (hx : -9223372036854775808 < x) (hx2 : x ≤ 9223372036854775807) :
    Calls Try.prog 65 #[.int .i64 x, .pointer (some ⟨b, 0, none⟩)] w fun e w' => e = .returned (.bool (!trueB x ms)) ∧ w = w' := by
  have hc := holds_any x a ms w h hx hx2
  have HC := Lib.hid hc; clear hc
  have H := Lib.hid h; clear h
  go_enter Try.func65, Try.ntmps65
  go_wp2_with fail
  go_fit HC.out; rintro e w' ⟨rfl, rfl⟩
  go_wp2_with fail
  go_ret
  exact ⟨rfl, rfl⟩

theorem any_not {α : Type} (p : α → Bool) : ∀ xs : List α, (!xs.any (fun x => !p x)) = xs.all p
  | [] => rfl
  | x :: r => by rw [List.any_cons, List.all_cons, ← any_not p r]; cases p x <;> simp

set_option maxRecDepth 100000 in
set_option maxHeartbeats 4000000 in
theorem body_any (r : GRule) (hA : Option Addr) (hl hc : Nat) (bA : Option Addr) (bl bc : Nat) (wA : Option Addr) (wl wc : Nat) (a : Nat) (ms : List Int) (w : World) (hr : RuleIn w r hA hl hc bA bl bc wA wl wc) (hm : MemIn w a ms) (ok : BodyOk r) :
    Calls Try.prog 46 #[.agg #[.bool r.choice, .slice hA hl hc, .bool r.sum, .int .i64 r.bound, .slice bA bl bc, .slice wA wl wc], .func (.func 62) #[] #[.pointer (some ⟨a, 0, none⟩)]] w fun e w' => e = .returned (.bool (bodyB r ms)) ∧ Below w.heap.size w w' := by
  have hbc := hr.body.cap
  have hbm := hr.body.max
  have hwc := hr.wt.cap
  have hwm := hr.wt.max
  have l2 := Lib.hid hr.body.len
  have l3 := Lib.hid hr.wt.len
  have HR := Lib.hid hr; clear hr
  have HM := Lib.hid hm; clear hm
  have OK := Lib.hid ok; clear ok
  by_cases hs : r.sum = true
  · have hlen := OK.out.len hs
    have hwl : wl = bl := by rw [l3.out, l2.out, hlen]
    subst hwl
    have hfin : bodyB r ms = decide (r.bound ≤ sumT r.body r.w ms) := by unfold bodyB; rw [if_pos hs]
    have hpos := Lib.hid (OK.out.pos hs)
    have htot := Lib.hid (OK.out.tot hs)
    have HFIN := Lib.hid hfin; clear hfin
    have HLEN := Lib.hid hlen; clear hlen
    rw [hs]
    have HS := Lib.hid hs; clear hs
    go_enter Try.func46, Try.ntmps46
    go_wp2_with fail
    go_loop [5, 19] (fun s i => ∃ (k : Nat) (z : Int), k ≤ wl ∧ i = .int .i64 k ∧ s = .int .i64 z ∧ 0 ≤ z ∧ z + (r.w.drop k).sum ≤ 1099511627776 ∧ sumT r.body r.w ms = z + sumT (r.body.drop k) (r.w.drop k) ms) (fun _ i => wl - (intOf i).toNat)
    case atStart => exact ⟨0, 0, Nat.zero_le _, rfl, rfl, by omega, by simpa using htot.out, by simp⟩
    case round =>
      obtain ⟨k, z, hk, rfl, rfl, hz, hzs, hs2⟩ := hrel
      have hdn := sum_drop_nonneg hpos.out k
      have HS2 := Lib.hid hs2; clear hs2
      by_cases hlt : k < wl
      · obtain ⟨x, hx, hd⟩ := HR.out.body.drop hlt
        obtain ⟨y, hy, hd2⟩ := HR.out.wt.drop hlt
        obtain ⟨b, off, rfl, hbz, hcell, hx64⟩ := HR.out.body.int hx
        obtain ⟨b2, off2, rfl, hbz2, hcell2, _⟩ := HR.out.wt.int hy
        have hxl := OK.out.lit x (List.mem_of_getElem? hx)
        have hx9 : x ≤ 9223372036854775807 := hx64.2
        have hy0 := hpos.out y (List.mem_of_getElem? hy)
        have hdn2 := sum_drop_nonneg hpos.out (k + 1)
        rw [hd2, List.sum_cons] at hzs
        have HX := Lib.hid hx; clear hx
        have HD := Lib.hid hd; clear hd
        have HY := Lib.hid hy; clear hy
        have HD2 := Lib.hid hd2; clear hd2
        clear hx64
        by_cases ht : trueB x ms = true
        · go_wp2_with fail
          go_fit (holds_any x a ms _ (HM.out.ext (bel_alloc2 _ _ _)) hxl hx9); rintro e w' ⟨rfl, rfl⟩
          go_wp2_with fail
          go_round
          case rel => exact ⟨k + 1, z + y, by omega, by go_num, rfl, by omega, by omega, by rw [HS2.out, HD.out, HD2.out, sumT_cons, if_pos ht]; omega⟩
          case measure => simp [intOf]; omega
        · have hf : trueB x ms = false := by simpa using ht
          clear ht
          go_wp2_with fail
          go_fit (holds_any x a ms _ (HM.out.ext (bel_alloc2 _ _ _)) hxl hx9); rintro e w' ⟨rfl, rfl⟩
          go_wp2_with fail
          go_round
          case rel => exact ⟨k + 1, z, by omega, by go_num, rfl, by omega, by omega, by rw [HS2.out, HD.out, HD2.out, sumT_cons, hf]; simp⟩
          case measure => simp [intOf]; omega
      · have hfin2 : bodyB r ms = decide (r.bound ≤ z) := by
          rw [HFIN.out, HS2.out, HR.out.body.stop (by omega)]; simp [sumT]
        have HFIN2 := Lib.hid hfin2; clear hfin2
        go_wp2_with fail
        all_goals go_ret
        all_goals exact ⟨ret_bool (by rw [HFIN2.out] <;> first | exact (decide_eq_true (by omega)).symm | exact (decide_eq_false (by omega)).symm), bel_alloc2 _ _ _⟩
  · have hsf : r.sum = false := by simpa using hs
    clear hs
    have hfin : bodyB r ms = !r.body.any (fun x => !trueB x ms) := by unfold bodyB; rw [hsf, any_not]; rfl
    generalize hq : r.body.any (fun x => !trueB x ms) = q at *
    have HFIN := Lib.hid hfin; clear hfin
    have HQ := Lib.hid hq; clear hq
    have hc := fun W (hb : Below w.heap.size w W) (hcc : W.cell? ⟨w.heap.size + 1, 0, none⟩ = some (.func (.func 62) #[] #[.pointer (some ⟨a, 0, none⟩)])) => HQ.out ▸ containsFuncI_any bA bl bc r.body 65 #[.pointer (some ⟨w.heap.size + 1, 0, none⟩)] (fun x => !trueB x ms) W (HR.out.body.ext hb) (fun args W => by kernel_rfl)
      (fun W' x hb' hx hx64 => (bodyF_any x a (w.heap.size + 1) ms W' (HM.out.ext (bel_trans hb hb')) ((hb'.cell (World.block_lt_of_cell? W _ hcc)).trans hcc) (OK.out.lit x hx) hx64.2).mono fun e w' ⟨h1, h2⟩ => ⟨h1, by rw [h2]; exact Below.refl _ _⟩)
    rw [hsf]
    have HSF := Lib.hid hsf; clear hsf
    have HC := Lib.hid hc; clear hc
    go_enter Try.func46, Try.ntmps46
    go_wp2_with fail
    go_fit (HC.out _ (bel_alloc2 _ _ _) (by simp)); rintro e w1 ⟨rfl, hb1⟩
    have HB1 := Lib.hid (bel_trans (bel_alloc2 _ _ _) hb1)
    clear hb1
    go_wp2_with fail
    go_ret
    exact ⟨ret_bool HFIN.out.symm, HB1.out⟩
end Go.Proofs.Ytcbkkjcleiibfaa

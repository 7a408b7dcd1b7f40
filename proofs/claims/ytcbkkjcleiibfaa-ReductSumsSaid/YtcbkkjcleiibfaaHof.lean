/- Contracts of slices.IndexFunc, ContainsFunc, Index, Contains, Clone at ints and rules. -/
import Derived.Test.YtcbkkjcleiibfaaRf2
import Derived.Test.YtcbkkjcleiibfaaOwn
namespace Go.Proofs.Ytcbkkjcleiibfaa
open Go.RowKit

/-- The index of the first element that p takes, counted from k, or -1. -/
def idxGo {α : Type} (p : α → Bool) (k : Int) : List α → Int
  | [] => -1
  | x :: r => if p x then k else idxGo p (k + 1) r
theorem idxGo_cons {α : Type} (p : α → Bool) (k : Int) (x : α) (r : List α) : idxGo p k (x :: r) = if p x then k else idxGo p (k + 1) r := rfl
theorem idxGo_any {α : Type} (p : α → Bool) : ∀ (xs : List α) (k : Int), 0 ≤ k → decide (0 ≤ idxGo p k xs) = xs.any p
  | [], k, _ => rfl
  | x :: r, k, hk => by
    rw [idxGo_cons, List.any_cons]
    by_cases h : p x = true
    · rw [if_pos h, h, decide_eq_true hk]; rfl
    · have hf : p x = false := by simpa using h
      rw [if_neg h, hf, idxGo_any p r (k + 1) (by omega), Bool.false_or]

set_option maxRecDepth 100000 in
set_option maxHeartbeats 1000000 in
theorem indexFuncI_any (lA : Option Addr) (ll lc : Nat) (xs : List Int) (g : FuncId) (cap : Array Value) (p : Int → Bool) (w : World) (h : SlIs intR w lA ll lc xs) (hg : ∀ args W, (callFunc g args).run Try.prog W = .ok (.enter g args) W)
    (hf : ∀ (W : World) (x : Int), Below w.heap.size w W → x ∈ xs → I64 x → Calls Try.prog g (#[.int .i64 x] ++ cap) W fun e W' => e = .returned (.bool (p x)) ∧ Below W.heap.size W W') :
    Calls Try.prog 64 #[.slice lA ll lc, .func (.func g) #[] cap] w fun e w' => e = .returned (.int .i64 (idxGo p 0 xs)) ∧ Below w.heap.size w w' := by
  have hl := h.cap
  have hm := h.max
  have H := Lib.hid h; clear h
  have HF := Lib.hid hf; clear hf
  go_enter Try.func64, Try.ntmps64
  go_wp2_with fail
  go_loopw [8] (fun i wr => ∃ k : Nat, k ≤ ll ∧ i = .int .i64 k ∧ Below w.heap.size w wr ∧ idxGo p 0 xs = idxGo p k (xs.drop k)) (fun i _ => ll - (intOf i).toNat)
  case atStart => exact ⟨0, Nat.zero_le _, rfl, Below.refl _ _, rfl⟩
  case round =>
    obtain ⟨k, hk, rfl, hbw, hs⟩ := hrel
    have H1 := Lib.hid (H.out.ext hbw)
    have HBW := Lib.hid hbw
    clear hbw
    have HS := Lib.hid hs; clear hs
    by_cases hlt : k < ll
    · obtain ⟨x, hx, hd⟩ := H.out.drop hlt
      obtain ⟨b, off, rfl, _, hcell, hx64⟩ := H1.out.int hx
      have HX64 := Lib.hid hx64
      clear hx64
      have hmem := List.mem_of_getElem? hx
      have HX := Lib.hid hx; clear hx
      have HD := Lib.hid hd; clear hd
      have HMEM := Lib.hid hmem; clear hmem
      by_cases hp : p x = true
      · have HP := Lib.hid hp
        have hc := hp ▸ HF.out wr x HBW.out HMEM.out HX64.out
        clear hp
        have HC := Lib.hid hc; clear hc
        go_wp2_with fail
        go_fit HC.out; rintro e w1 ⟨rfl, hb1⟩
        have HB1 := Lib.hid (bel_trans HBW.out hb1)
        clear hb1
        go_wp2_with fail
        go_ret
        exact ⟨ret_int (by rw [HS.out, HD.out, idxGo_cons, if_pos HP.out]), HB1.out⟩
      · have hpf : p x = false := by simpa using hp
        have hc := hpf ▸ HF.out wr x HBW.out HMEM.out HX64.out
        clear hp
        have HPF := Lib.hid hpf; clear hpf
        have HC := Lib.hid hc; clear hc
        go_wp2_with fail
        go_fit HC.out; rintro e w1 ⟨rfl, hb1⟩
        have HB1 := Lib.hid (bel_trans HBW.out hb1)
        clear hb1
        go_wp2_with fail
        go_roundw
        case rel => exact ⟨k + 1, by omega, by go_num, HB1.out, by rw [HS.out, HD.out, idxGo_cons, HPF.out]; simp⟩
        case measure => simp [intOf]; omega
    · go_wp2_with fail
      go_ret
      exact ⟨ret_int (by rw [HS.out, H.out.stop (by omega)]; rfl), HBW.out⟩
set_option maxHeartbeats 1000000 in
theorem containsFuncI_any (lA : Option Addr) (ll lc : Nat) (xs : List Int) (g : FuncId) (cap : Array Value) (p : Int → Bool) (w : World) (h : SlIs intR w lA ll lc xs) (hg : ∀ args W, (callFunc g args).run Try.prog W = .ok (.enter g args) W)
    (hf : ∀ (W : World) (x : Int), Below w.heap.size w W → x ∈ xs → I64 x → Calls Try.prog g (#[.int .i64 x] ++ cap) W fun e W' => e = .returned (.bool (p x)) ∧ Below W.heap.size W W') :
    Calls Try.prog 44 #[.slice lA ll lc, .func (.func g) #[] cap] w fun e w' => e = .returned (.bool (xs.any p)) ∧ Below w.heap.size w w' := by
  have hi := indexFuncI_any lA ll lc xs g cap p w h hg hf
  have hq := idxGo_any p xs 0 (by omega)
  generalize idxGo p 0 xs = q at *
  have H := Lib.hid h; clear h
  have HF := Lib.hid hf; clear hf
  have HI := Lib.hid hi; clear hi
  have HQ := Lib.hid hq; clear hq
  go_enter Try.func44, Try.ntmps44
  go_wp2_with fail
  go_fit HI.out; rintro e w1 ⟨rfl, hb1⟩
  have HB1 := Lib.hid hb1
  clear hb1
  go_wp2_with fail
  all_goals go_ret
  all_goals exact ⟨ret_bool (by rw [← HQ.out] <;> first | exact (decide_eq_true (by omega)).symm | exact (decide_eq_false (by omega)).symm), HB1.out⟩

set_option maxRecDepth 100000 in
set_option maxHeartbeats 1000000 in
theorem indexFuncR_any (lA : Option Addr) (ll lc : Nat) (xs : List GRule) (g : FuncId) (cap : Array Value) (p : GRule → Bool) (w : World) (h : SlIs ruleR w lA ll lc xs) (hg : ∀ args W, (callFunc g args).run Try.prog W = .ok (.enter g args) W)
    (hf : ∀ (W : World) (x : GRule) (hA : Option Addr) (hl hc : Nat) (bA : Option Addr) (bl bc : Nat) (wA : Option Addr) (wl wc : Nat), Below w.heap.size w W → x ∈ xs → RuleIn W x hA hl hc bA bl bc wA wl wc → Calls Try.prog g (#[.agg #[.bool x.choice, .slice hA hl hc, .bool x.sum, .int .i64 x.bound, .slice bA bl bc, .slice wA wl wc]] ++ cap) W fun e W' => e = .returned (.bool (p x)) ∧ Below W.heap.size W W') :
    Calls Try.prog 40 #[.slice lA ll lc, .func (.func g) #[] cap] w fun e w' => e = .returned (.int .i64 (idxGo p 0 xs)) ∧ Below w.heap.size w w' := by
  have hl := h.cap
  have hm := h.max
  have H := Lib.hid h; clear h
  have HF := Lib.hid hf; clear hf
  go_enter Try.func40, Try.ntmps40
  go_wp2_with fail
  go_loopw [8] (fun i wr => ∃ k : Nat, k ≤ ll ∧ i = .int .i64 k ∧ Below w.heap.size w wr ∧ idxGo p 0 xs = idxGo p k (xs.drop k)) (fun i _ => ll - (intOf i).toNat)
  case atStart => exact ⟨0, Nat.zero_le _, rfl, Below.refl _ _, rfl⟩
  case round =>
    obtain ⟨k, hk, rfl, hbw, hs⟩ := hrel
    have H1 := Lib.hid (H.out.ext hbw)
    have HBW := Lib.hid hbw
    clear hbw
    have HS := Lib.hid hs; clear hs
    by_cases hlt : k < ll
    · obtain ⟨x, hx, hd⟩ := H.out.drop hlt
      obtain ⟨b, off, hA, hl, hc, bA, bl, bc, wA, wl, wc, rfl, _, f0, f1, f2, f3, f4, f5, g1, g2, g3, g4⟩ := H1.out.rule hx
      have HR := Lib.hid (show RuleIn wr x hA hl hc bA bl bc wA wl wc from ⟨g1, g2, g3, g4⟩)
      clear g1 g2 g3 g4
      have hmem := List.mem_of_getElem? hx
      have HX := Lib.hid hx; clear hx
      have HD := Lib.hid hd; clear hd
      have HMEM := Lib.hid hmem; clear hmem
      by_cases hp : p x = true
      · have HP := Lib.hid hp
        have hct := hp ▸ HF.out wr x _ _ _ _ _ _ _ _ _ HBW.out HMEM.out HR.out
        clear hp
        have HCT := Lib.hid hct; clear hct
        go_wp2_with fail
        go_fit HCT.out; rintro e w1 ⟨rfl, hb1⟩
        have HB1 := Lib.hid (bel_trans HBW.out hb1)
        clear hb1
        go_wp2_with fail
        go_ret
        exact ⟨ret_int (by rw [HS.out, HD.out, idxGo_cons, if_pos HP.out]), HB1.out⟩
      · have hpf : p x = false := by simpa using hp
        have hct := hpf ▸ HF.out wr x _ _ _ _ _ _ _ _ _ HBW.out HMEM.out HR.out
        clear hp
        have HPF := Lib.hid hpf; clear hpf
        have HCT := Lib.hid hct; clear hct
        go_wp2_with fail
        go_fit HCT.out; rintro e w1 ⟨rfl, hb1⟩
        have HB1 := Lib.hid (bel_trans HBW.out hb1)
        clear hb1
        go_wp2_with fail
        go_roundw
        case rel => exact ⟨k + 1, by omega, by go_num, HB1.out, by rw [HS.out, HD.out, idxGo_cons, HPF.out]; simp⟩
        case measure => simp [intOf]; omega
    · go_wp2_with fail
      go_ret
      exact ⟨ret_int (by rw [HS.out, H.out.stop (by omega)]; rfl), HBW.out⟩
set_option maxHeartbeats 1000000 in
theorem containsFuncR_any (lA : Option Addr) (ll lc : Nat) (xs : List GRule) (g : FuncId) (cap : Array Value) (p : GRule → Bool) (w : World) (h : SlIs ruleR w lA ll lc xs) (hg : ∀ args W, (callFunc g args).run Try.prog W = .ok (.enter g args) W)
    (hf : ∀ (W : World) (x : GRule) (hA : Option Addr) (hl hc : Nat) (bA : Option Addr) (bl bc : Nat) (wA : Option Addr) (wl wc : Nat), Below w.heap.size w W → x ∈ xs → RuleIn W x hA hl hc bA bl bc wA wl wc → Calls Try.prog g (#[.agg #[.bool x.choice, .slice hA hl hc, .bool x.sum, .int .i64 x.bound, .slice bA bl bc, .slice wA wl wc]] ++ cap) W fun e W' => e = .returned (.bool (p x)) ∧ Below W.heap.size W W') :
    Calls Try.prog 48 #[.slice lA ll lc, .func (.func g) #[] cap] w fun e w' => e = .returned (.bool (xs.any p)) ∧ Below w.heap.size w w' := by
  have hi := indexFuncR_any lA ll lc xs g cap p w h hg hf
  have hq := idxGo_any p xs 0 (by omega)
  generalize idxGo p 0 xs = q at *
  have H := Lib.hid h; clear h
  have HF := Lib.hid hf; clear hf
  have HI := Lib.hid hi; clear hi
  have HQ := Lib.hid hq; clear hq
  go_enter Try.func48, Try.ntmps48
  go_wp2_with fail
  go_fit HI.out; rintro e w1 ⟨rfl, hb1⟩
  have HB1 := Lib.hid hb1
  clear hb1
  go_wp2_with fail
  all_goals go_ret
  all_goals exact ⟨ret_bool (by rw [← HQ.out] <;> first | exact (decide_eq_true (by omega)).symm | exact (decide_eq_false (by omega)).symm), HB1.out⟩

set_option maxHeartbeats 1000000 in
theorem indexI_any (lA : Option Addr) (ll lc : Nat) (xs : List Int) (v : Int) (w : World) (h : SlIs intR w lA ll lc xs) :
    Calls Try.prog 63 #[.slice lA ll lc, .int .i64 v] w fun e w' => e = .returned (.int .i64 (idxGo (fun x => decide (x = v)) 0 xs)) ∧ w = w' := by
  have hl := h.cap
  have hm := h.max
  generalize hp : (fun x => decide (x = v)) = p
  have hp2 : ∀ x, p x = decide (x = v) := fun x => by rw [← hp]
  have H := Lib.hid h; clear h
  have HP := Lib.hid hp; clear hp
  have HP2 := Lib.hid hp2; clear hp2
  go_enter Try.func63, Try.ntmps63
  go_wp2
  go_loop [8] (fun i => ∃ k : Nat, k ≤ ll ∧ i = .int .i64 k ∧ idxGo p 0 xs = idxGo p k (xs.drop k)) (fun i => ll - (intOf i).toNat)
  case atStart => exact ⟨0, Nat.zero_le _, rfl, rfl⟩
  case round =>
    obtain ⟨k, hk, rfl, hs⟩ := hrel
    have HS := Lib.hid hs; clear hs
    by_cases hlt : k < ll
    · obtain ⟨x, hx, hd⟩ := H.out.drop hlt
      obtain ⟨b, off, rfl, _, hcell, _⟩ := H.out.int hx
      have HX := Lib.hid hx; clear hx
      have HD := Lib.hid hd; clear hd
      by_cases he : x = v
      · have q1 : (v == x) = true := by simp [he]
        have q2 : (x == v) = true := by simp [he]
        have HE := Lib.hid he; clear he
        go_wp2
        go_ret
        exact ⟨ret_int (by rw [HS.out, HD.out, idxGo_cons, HP2.out, if_pos (by simp [HE.out])]), rfl⟩
      · have q1 : (v == x) = false := by simp; exact fun h => he h.symm
        have q2 : (x == v) = false := by simp [he]
        have HE := Lib.hid he; clear he
        go_wp2
        go_round
        case rel => exact ⟨k + 1, by omega, by go_num, by rw [HS.out, HD.out, idxGo_cons, HP2.out, if_neg (by simp [HE.out])]; rfl⟩
        case measure => simp [intOf]; omega
    · go_wp2
      go_ret
      exact ⟨ret_int (by rw [HS.out, H.out.stop (by omega)]; rfl), rfl⟩
set_option maxHeartbeats 1000000 in
theorem containsI_any (lA : Option Addr) (ll lc : Nat) (xs : List Int) (v : Int) (w : World) (h : SlIs intR w lA ll lc xs) :
    Calls Try.prog 43 #[.slice lA ll lc, .int .i64 v] w fun e w' => e = .returned (.bool (decide (v ∈ xs))) ∧ w = w' := by
  have hi := indexI_any lA ll lc xs v w h
  have hq := idxGo_any (fun x => decide (x = v)) xs 0 (by omega)
  have hq2 : xs.any (fun x => decide (x = v)) = decide (v ∈ xs) := by
    rw [Bool.eq_iff_iff]; simp
  rw [hq2] at hq
  generalize idxGo (fun x => decide (x = v)) 0 xs = q at *
  have H := Lib.hid h; clear h
  have HI := Lib.hid hi; clear hi
  have HQ := Lib.hid hq; clear hq
  have HQ2 := Lib.hid hq2; clear hq2
  go_enter Try.func43, Try.ntmps43
  go_wp2_with fail
  go_fit HI.out; rintro e w' ⟨rfl, rfl⟩
  go_wp2_with fail
  all_goals go_ret
  all_goals exact ⟨ret_bool (by rw [← HQ.out] <;> first | exact (decide_eq_true (by omega)).symm | exact (decide_eq_false (by omega)).symm), rfl⟩

set_option maxHeartbeats 1000000 in
theorem clone_any (lA : Option Addr) (ll lc : Nat) (xs : List Int) (w : World) (h : SlIs intR w lA ll lc xs) :
    Calls Try.prog 61 #[.slice lA ll lc] w fun e w' => ∃ A l c, e = .returned (.slice A l c) ∧ SlIs intR w' A l c xs ∧ Below w.heap.size w w' := by
  have hl := h.cap
  have hm := h.max
  have hs := h.small
  have hnil := fun W => Lib.run_eql_slice_nil (P := Try.prog) W 24 3 lA ll lc 0 0 Try.underlying24
  have hx : ∀ x ∈ xs, I64 x := fun x hx => by
    obtain ⟨k, hk⟩ := List.getElem?_of_mem hx
    exact (h.int hk).choose_spec.choose_spec.2.2.2
  cases hA : lA with
  | none =>
    subst hA
    have h0 : ll = 0 := by
      rcases Nat.eq_zero_or_pos ll with h0 | h0
      · exact h0
      · obtain ⟨ad, he, _⟩ := h.2.2.2 h0; cases he
    subst h0
    have hxs : xs = [] := List.eq_nil_of_length_eq_zero h.len.symm
    subst hxs
    have H := Lib.hid h; clear h
    go_enter Try.func61, Try.ntmps61
    go_wp2_with fail
    refine bodyPost_ret (results_tmp rfl _ _ _) rfl ?_
    exact ⟨none, 0, 0, rfl, SlIs.nil _ _, Below.refl _ _⟩
  | some ad =>
    subst hA
    have O0 : OwnI (w.alloc (.cells #[] 3)) w.heap.size (.slice (some ⟨w.heap.size, 0, none⟩) 0 0) 0 [] := ⟨rfl, World.ownsRow_made _ #[] 0 (Nat.le_refl _) (by simp [maxLen]) (by simp)⟩
    obtain ⟨v1, w3, hrun1, own1, hg1, hat1⟩ := appS O0 (h.ext (bel_alloc _ _)) (by omega) (by simp) 24
    have hb3 : Below w.heap.size w w3 := bel_grown (bel_alloc _ _) hg1 (by simp) (fun k hk => by simp [Value.ownBlock] at hk; omega)
    obtain ⟨A', c', hv, hsl⟩ := own1.sl (by omega) (by simpa using hx)
    subst hv
    have H := Lib.hid h; clear h
    have O0 := Lib.hid O0; clear O0
    have OWN1 := Lib.hid own1; clear own1
    have HG1 := Lib.hid hg1; clear hg1
    have HAT1 := Lib.hid hat1; clear hat1
    have HB3 := Lib.hid hb3; clear hb3
    have HSL := Lib.hid hsl; clear hsl
    have HX := Lib.hid hx; clear hx
    have HRUN1 := Lib.hid hrun1; clear hrun1
    go_enter Try.func61, Try.ntmps61
    go_wp2_with (at_builtin; refine wpList_append_run rfl _ _ _ rfl _ _ rfl rfl _ _ HRUN1.out ?_)
    refine bodyPost_ret (results_tmp rfl _ _ _) rfl ?_
    exact ⟨A', _, c', rfl, by have h1 := HSL.out; simpa using h1, HB3.out⟩
end Go.Proofs.Ytcbkkjcleiibfaa

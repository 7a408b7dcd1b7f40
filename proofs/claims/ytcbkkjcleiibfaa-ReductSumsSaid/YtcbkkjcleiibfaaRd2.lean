/- Contracts: reduct.satisfied, Broken, Models, check, definite. -/
import Derived.Test.YtcbkkjcleiibfaaRd1
import Derived.Laws.EntriesVeiled
import Derived.Test.YtcbkkjcleiibfaaGp5
import Derived.Test.YtcbkkjcleiibfaaRf5
namespace Go.Proofs.Ytcbkkjcleiibfaa
open Go.RowKit Go.Maps Go.WideMaps

theorem any_decide (hs ms : List Int) : hs.any (fun a => decide (a ∈ ms)) = hs.any (fun a => decide (a ∈ ms)) := rfl
set_option maxRecDepth 100000 in
set_option maxHeartbeats 2000000 in
theorem satisfied_any (r : GRule) (hA : Option Addr) (hl hc : Nat) (bA : Option Addr) (bl bc : Nat) (wA : Option Addr) (wl wc : Nat) (a : Nat) (ms : List Int) (w : World) (hr : RuleIn w r hA hl hc bA bl bc wA wl wc) (hm : MemIn w a ms) (ok : BodyOk r) :
    Calls Try.prog 42 #[.agg #[.bool r.choice, .slice hA hl hc, .bool r.sum, .int .i64 r.bound, .slice bA bl bc, .slice wA wl wc], .func (.func 62) #[] #[.pointer (some ⟨a, 0, none⟩)]] w fun e w' => e = .returned (.bool (satB r ms)) ∧ Below w.heap.size w w' := by
  have hsat : satB r ms = (r.choice || !bodyB r ms || r.head.any (fun a => decide (a ∈ ms))) := rfl
  have cB := fun W (hb : Below w.heap.size w W) => body_any r hA hl hc bA bl bc wA wl wc a ms W (hr.ext hb) (hm.ext hb) ok
  have cH := fun W (hb : Below w.heap.size w W) => containsFuncI_any hA hl hc r.head 62 #[.pointer (some ⟨a, 0, none⟩)] (fun x => decide (x ∈ ms)) W (hr.head.ext hb) (fun args W => by kernel_rfl)
      (fun W' x hb' _ hx64 => (memberF_any x a ms W' (hm.ext (bel_trans hb hb')) hx64).mono fun e w' ⟨h1, h2⟩ => ⟨h1, by rw [h2]; exact Below.refl _ _⟩)
  generalize bodyB r ms = q at *
  generalize r.head.any (fun x => decide (x ∈ ms)) = q2 at *
  have HR := Lib.hid hr; clear hr
  have HM := Lib.hid hm; clear hm
  have OK := Lib.hid ok; clear ok
  have HSAT := Lib.hid hsat; clear hsat
  by_cases hch : r.choice = true
  · rw [hch] at HSAT ⊢
    clear cB cH
    have HCH := Lib.hid hch; clear hch
    go_enter Try.func42, Try.ntmps42
    go_wp2_with fail
    go_ret
    exact ⟨ret_bool (by rw [HSAT.out]; rfl), bel_alloc _ _⟩
  · have hcf : r.choice = false := by simpa using hch
    clear hch
    rw [hcf] at HSAT ⊢
    simp only [hcf] at cB
    have HCF := Lib.hid hcf; clear hcf
    cases q
    · have CB := Lib.hid cB; clear cB
      have CH := Lib.hid cH; clear cH
      go_enter Try.func42, Try.ntmps42
      go_wp2_with fail
      go_fit (CB.out _ (bel_alloc _ _)); rintro e w1 ⟨rfl, hb1⟩
      have HB1 := Lib.hid (bel_trans (bel_alloc _ _) hb1)
      clear hb1
      go_wp2_with fail
      go_ret
      exact ⟨ret_bool (by rw [HSAT.out]; rfl), HB1.out⟩
    · have CB := Lib.hid cB; clear cB
      have CH := Lib.hid cH; clear cH
      go_enter Try.func42, Try.ntmps42
      go_wp2_with fail
      go_fit (CB.out _ (bel_alloc _ _)); rintro e w1 ⟨rfl, hb1⟩
      have hc1 := bcell hb1
      have HB1 := Lib.hid (bel_trans (bel_alloc _ _) hb1)
      clear hb1
      go_wp2_with fail
      go_fit (CH.out _ HB1.out); rintro e w2 ⟨rfl, hb2⟩
      have HB2 := Lib.hid (bel_trans HB1.out hb2)
      clear hb2
      go_wp2_with fail
      go_ret
      exact ⟨ret_bool (by rw [HSAT.out]; simp), HB2.out⟩

set_option maxHeartbeats 1000000 in
theorem brokenF_any (r : GRule) (hA : Option Addr) (hl hc : Nat) (bA : Option Addr) (bl bc : Nat) (wA : Option Addr) (wl wc : Nat) (a b : Nat) (ms : List Int) (w : World) (hr : RuleIn w r hA hl hc bA bl bc wA wl wc) (hm : MemIn w a ms) (ok : BodyOk r) (hb : w.cell? ⟨b, 0, none⟩ = some (.func (.func 62) #[] #[.pointer (some ⟨a, 0, none⟩)])) :
    Calls Try.prog 41 #[.agg #[.bool r.choice, .slice hA hl hc, .bool r.sum, .int .i64 r.bound, .slice bA bl bc, .slice wA wl wc], .pointer (some ⟨b, 0, none⟩)] w fun e w' => e = .returned (.bool (!satB r ms)) ∧ Below w.heap.size w w' := by
  have cS := fun W (hb : Below w.heap.size w W) => satisfied_any r hA hl hc bA bl bc wA wl wc a ms W (hr.ext hb) (hm.ext hb) ok
  have hbl := World.block_lt_of_cell? w _ hb
  simp only at hbl
  have HR := Lib.hid hr; clear hr
  have HM := Lib.hid hm; clear hm
  have OK := Lib.hid ok; clear ok
  have CS := Lib.hid cS; clear cS
  go_enter Try.func41, Try.ntmps41
  go_wp2_with fail
  go_fit (CS.out _ (bel_alloc _ _)); rintro e w1 ⟨rfl, hb1⟩
  have HB1 := Lib.hid (bel_trans (bel_alloc _ _) hb1)
  clear hb1
  go_wp2_with fail
  go_ret
  exact ⟨rfl, HB1.out⟩

def checkE (p : GProg) (m : List Int) : Int := if validE p ≠ 0 then validE p else if incB p.n m = false then 2 else 0
set_option maxRecDepth 100000 in
set_option maxHeartbeats 2000000 in
theorem check_any (p : GProg) (nA : Option Addr) (nl nc : Nat) (sA : Option Addr) (sl sc : Nat) (rA : Option Addr) (rl rc : Nat) (mA : Option Addr) (ml mc : Nat) (xA : Option Addr) (xl xc : Nat) (m : List Int) (w : World) (hp : ProgIn w p nA nl nc sA sl sc rA rl rc mA ml mc) (hm : SlIs intR w xA xl xc m) :
    Calls Try.prog 37 #[.agg #[.int .i64 p.n, .slice nA nl nc, .slice sA sl sc, .slice rA rl rc, .slice mA ml mc], .slice xA xl xc] w fun e w' => e = .returned (.int .i64 (checkE p m)) ∧ Below w.heap.size w w' := by
  have cV := fun W (hb : Below w.heap.size w W) => valid_any p nA nl nc sA sl sc rA rl rc mA ml mc W (hp.ext hb)
  have cS := fun W (hb : Below w.heap.size w W) => set_any xA xl xc m p.n W (hm.ext hb)
  have hce : checkE p m = if validE p ≠ 0 then validE p else if incB p.n m = false then 2 else 0 := rfl
  generalize validE p = v at *
  generalize incB p.n m = q at *
  have HP := Lib.hid hp; clear hp
  have HM := Lib.hid hm; clear hm
  have CV := Lib.hid cV; clear cV
  have CS := Lib.hid cS; clear cS
  have HCE := Lib.hid hce; clear hce
  by_cases hv : v = 0
  · have q1 : (v != 0) = false := by simpa using hv
    have HV := Lib.hid hv; clear hv
    cases q
    all_goals
      go_enter Try.func37, Try.ntmps37
      go_wp2_with fail
      go_fit (CV.out _ (bel_alloc _ _)); rintro e w1 ⟨rfl, hb1⟩
      have hc1 := bcell hb1
      have HB1 := Lib.hid (bel_trans (bel_alloc _ _) hb1)
      clear hb1
      go_wp2_with fail
      go_fit (CS.out _ HB1.out); rintro e w' ⟨rfl, rfl⟩
      go_wp2_with fail
      go_ret
      exact ⟨ret_int (by rw [HCE.out, HV.out]; rfl), HB1.out⟩
  · have q1 : (v != 0) = true := by simpa using hv
    have HV := Lib.hid hv; clear hv
    go_enter Try.func37, Try.ntmps37
    go_wp2_with fail
    go_fit (CV.out _ (bel_alloc _ _)); rintro e w1 ⟨rfl, hb1⟩
    have HB1 := Lib.hid (bel_trans (bel_alloc _ _) hb1)
    clear hb1
    go_wp2_with fail
    go_ret
    exact ⟨ret_int (by rw [HCE.out, if_pos HV.out]), HB1.out⟩

/-- What a valid program is. -/
theorem rulesE_mem {n : Int} : ∀ {rs : List GRule}, rulesE n rs = 0 → ∀ r ∈ rs, ruleE r n = 0
  | [], _, r, hr => by simp at hr
  | x :: rs, h, r, hr => by
    unfold rulesE at h
    by_cases h0 : ruleE x n = 0
    · rw [if_pos h0] at h
      rcases List.mem_cons.1 hr with rfl | hr
      · exact h0
      · exact rulesE_mem h r hr
    · rw [if_neg h0] at h; exact absurd h h0
structure ProgIs (p : GProg) : Prop where
  named : namedB p = true
  few : p.rules.length ≤ 40000
  rules : ∀ r ∈ p.rules, RuleIs r p.n
  mins : p.min.length ≤ 8
  min : minGoE p.n none p.min = true
theorem validE_is {p : GProg} (h : validE p = 0) : ProgIs p := by
  unfold validE at h
  split at h
  · cases h
  · split at h
    · cases h
    · split at h
      · rename_i hr; exact absurd h hr
      · split at h
        · cases h
        · split at h
          · cases h
          · rename_i h1 h2 h3 h4 h5
            refine ⟨by simpa using h1, by omega, fun r hr => ruleE_is (rulesE_mem (by simpa using h3) r hr), by omega, by simpa using h5⟩
theorem checkE_is {p : GProg} {m : List Int} (h : checkE p m = 0) : ProgIs p ∧ incB p.n m = true := by
  unfold checkE at h
  split at h
  · rename_i h1; exact absurd h h1
  · split at h
    · cases h
    · rename_i h1 h2; exact ⟨validE_is (by simpa using h1), by simpa using h2⟩

def brokenI (p : GProg) (m : List Int) : Int := idxGo (fun r => !satB r m) 0 p.rules
set_option maxRecDepth 100000 in
set_option maxHeartbeats 2000000 in
theorem broken_any (p : GProg) (nA : Option Addr) (nl nc : Nat) (sA : Option Addr) (sl sc : Nat) (rA : Option Addr) (rl rc : Nat) (mA : Option Addr) (ml mc : Nat) (xA : Option Addr) (xl xc : Nat) (m : List Int) (w : World) (hp : ProgIn w p nA nl nc sA sl sc rA rl rc mA ml mc) (hm : SlIs intR w xA xl xc m) :
    Calls Try.prog 22 #[.agg #[.int .i64 p.n, .slice nA nl nc, .slice sA sl sc, .slice rA rl rc, .slice mA ml mc], .slice xA xl xc] w fun e w' => e = .returned (.tuple #[.int .i64 (if checkE p m = 0 then brokenI p m else 0), .int .i64 (checkE p m)]) ∧ Below w.heap.size w w' := by
  have cC := fun W (hb : Below w.heap.size w W) => check_any p nA nl nc sA sl sc rA rl rc mA ml mc xA xl xc m W (hp.ext hb) (hm.ext hb)
  by_cases hv : checkE p m = 0
  · have hok := (checkE_is hv).1.rules
    have cM := fun W (hb : Below w.heap.size w W) => member_any xA xl xc m W (hm.ext hb)
    have cI := fun W (a b : Nat) (hb : Below w.heap.size w W) (hmi : MemIn W a m) (hcell : W.cell? ⟨b, 0, none⟩ = some (.func (.func 62) #[] #[.pointer (some ⟨a, 0, none⟩)])) =>
      indexFuncR_any rA rl rc p.rules 41 #[.pointer (some ⟨b, 0, none⟩)] (fun r => !satB r m) W (hp.rules.ext hb) (fun args W => by kernel_rfl)
        (fun W' x _ _ _ _ _ _ _ _ _ hb' hx hr => brokenF_any x _ _ _ _ _ _ _ _ _ a b m W' hr (hmi.ext hb') (hok x hx).ok ((hb'.cell (World.block_lt_of_cell? W _ hcell)).trans hcell))
    have hbi : idxGo (fun r => !satB r m) 0 p.rules = brokenI p m := rfl
    simp only [hbi] at cI
    rw [if_pos hv]
    rw [hv] at cC ⊢
    generalize brokenI p m = q at *
    clear hv hbi
    have HP := Lib.hid hp; clear hp
    have HM := Lib.hid hm; clear hm
    have CC := Lib.hid cC; clear cC
    have CM := Lib.hid cM; clear cM
    have CI := Lib.hid cI; clear cI
    have HOK := Lib.hid hok; clear hok
    go_enter Try.func22, Try.ntmps22
    go_wp2_with fail
    go_fit (CC.out _ (bel_alloc _ _)); rintro e w1 ⟨rfl, hb1⟩
    have hc1 := bcell hb1
    have hz1 := bsz hb1
    have HB1 := Lib.hid (bel_trans (bel_alloc _ _) hb1)
    clear hb1
    go_wp2_with fail
    go_fit (CM.out _ HB1.out); rintro e w2 ⟨a, rfl, hmi, hb2⟩
    have hc2 := bcell hb2
    have hz2 : w.heap.size < w2.heap.size := Nat.lt_of_lt_of_le hz1 hb2.size
    have HB2 := Lib.hid (bel_trans HB1.out hb2)
    have HMI := Lib.hid hmi
    clear hb2 hmi
    go_wp2_with fail
    go_fit (CI.out _ a w2.heap.size (HB2.out.alloc HB2.out.size _) (HMI.out.ext (bel_alloc _ _)) (by simp)); rintro e w3 ⟨rfl, hb3⟩
    have HB3 := Lib.hid (bel_trans (HB2.out.alloc HB2.out.size _) hb3)
    clear hb3
    go_wp2_with fail
    go_ret2
    exact ⟨rfl, HB3.out⟩
  · rw [if_neg hv]
    generalize checkE p m = v at *
    have q1 : (v != 0) = true := by simpa using hv
    have HV := Lib.hid hv; clear hv
    have CC := Lib.hid cC; clear cC
    have HP := Lib.hid hp; clear hp
    have HM := Lib.hid hm; clear hm
    go_enter Try.func22, Try.ntmps22
    go_wp2_with fail
    go_fit (CC.out _ (bel_alloc _ _)); rintro e w1 ⟨rfl, hb1⟩
    have HB1 := Lib.hid (bel_trans (bel_alloc _ _) hb1)
    clear hb1
    go_wp2_with fail
    go_ret2
    exact ⟨rfl, HB1.out⟩

def modelB (p : GProg) (m : List Int) : Bool := p.rules.all (fun r => satB r m)
theorem brokenI_neg (p : GProg) (m : List Int) : decide (brokenI p m < 0) = modelB p m := by
  have h := idxGo_any (fun r => !satB r m) p.rules 0 (by omega)
  unfold brokenI modelB
  rw [← any_not, ← h]
  rw [Bool.eq_iff_iff]; simp
set_option maxRecDepth 100000 in
set_option maxHeartbeats 2000000 in
theorem models_any (p : GProg) (nA : Option Addr) (nl nc : Nat) (sA : Option Addr) (sl sc : Nat) (rA : Option Addr) (rl rc : Nat) (mA : Option Addr) (ml mc : Nat) (xA : Option Addr) (xl xc : Nat) (m : List Int) (w : World) (hp : ProgIn w p nA nl nc sA sl sc rA rl rc mA ml mc) (hm : SlIs intR w xA xl xc m) :
    Calls Try.prog 21 #[.agg #[.int .i64 p.n, .slice nA nl nc, .slice sA sl sc, .slice rA rl rc, .slice mA ml mc], .slice xA xl xc] w fun e w' => e = .returned (.tuple #[.bool (decide (checkE p m = 0) && modelB p m), .int .i64 (checkE p m)]) ∧ Below w.heap.size w w' := by
  have cB := fun W (hb : Below w.heap.size w W) => broken_any p nA nl nc sA sl sc rA rl rc mA ml mc xA xl xc m W (hp.ext hb) (hm.ext hb)
  have hneg := brokenI_neg p m
  generalize brokenI p m = q at *
  generalize modelB p m = mb at *
  generalize checkE p m = v at *
  by_cases hv : v = 0
  · subst hv
    simp only [if_true] at cB
    rw [decide_eq_true rfl, Bool.true_and]
    by_cases h0 : q < 0
    · have hmb : mb = true := by rw [← hneg, decide_eq_true h0]
      subst hmb
      have q1 : decide (q < 0) = true := decide_eq_true h0
      clear hneg
      have HP := Lib.hid hp; clear hp
      have HM := Lib.hid hm; clear hm
      have CB := Lib.hid cB; clear cB
      go_enter Try.func21, Try.ntmps21
      go_wp2_with fail
      go_fit (CB.out _ (bel_alloc _ _)); rintro e w1 ⟨rfl, hb1⟩
      have HB1 := Lib.hid (bel_trans (bel_alloc _ _) hb1)
      clear hb1
      go_wp2_with fail
      go_ret2
      exact ⟨rfl, HB1.out⟩
    · have hmb : mb = false := by rw [← hneg, decide_eq_false h0]
      subst hmb
      have q1 : decide (q < 0) = false := decide_eq_false h0
      clear hneg
      have HP := Lib.hid hp; clear hp
      have HM := Lib.hid hm; clear hm
      have CB := Lib.hid cB; clear cB
      go_enter Try.func21, Try.ntmps21
      go_wp2_with fail
      go_fit (CB.out _ (bel_alloc _ _)); rintro e w1 ⟨rfl, hb1⟩
      have HB1 := Lib.hid (bel_trans (bel_alloc _ _) hb1)
      clear hb1
      go_wp2_with fail
      go_ret2
      exact ⟨rfl, HB1.out⟩
  · have q1 : (v == 0) = false := by simpa using hv
    rw [decide_eq_false hv, Bool.false_and]
    simp only [if_neg hv] at cB
    have HP := Lib.hid hp; clear hp
    have HM := Lib.hid hm; clear hm
    have CB := Lib.hid cB; clear cB
    have HNEG := Lib.hid hneg; clear hneg
    have HV := Lib.hid hv; clear hv
    go_enter Try.func21, Try.ntmps21
    go_wp2_with fail
    go_fit (CB.out _ (bel_alloc _ _)); rintro e w1 ⟨rfl, hb1⟩
    have HB1 := Lib.hid (bel_trans (bel_alloc _ _) hb1)
    clear hb1
    go_wp2_with fail
    go_ret2
    exact ⟨rfl, HB1.out⟩
end Go.Proofs.Ytcbkkjcleiibfaa

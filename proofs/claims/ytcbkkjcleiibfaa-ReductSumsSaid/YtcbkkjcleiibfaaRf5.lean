/- The contract of the reference's Rounds and Least. -/
import Derived.Test.YtcbkkjcleiibfaaRf4
import Derived.Test.YtcbkkjcleiibfaaOwn
namespace Go.Proofs.Ytcbkkjcleiibfaa
open Go.RowKit

theorem ordGo_mem (n : Int) : ∀ (xs : List Int) (p : Option Int), ordGo n p xs = true → ∀ x ∈ xs, litB x n = true
  | [], _, _, _, hx => by simp at hx
  | y :: r, p, h, x, hx => by
    rw [ordGo_cons] at h
    simp only [Bool.and_eq_true] at h
    rcases List.mem_cons.1 hx with rfl | hx
    · exact h.1.1
    · exact ordGo_mem n r _ h.2 x hx
theorem wtGo_spec : ∀ (xs : List Int) (s : Int), 0 ≤ s → s ≤ 1048576 → wtGo s xs = true → (∀ x ∈ xs, 1 ≤ x) ∧ s + xs.sum ≤ 1048576
  | [], s, _, h2, _ => by simp; omega
  | x :: r, s, h1, h2, h => by
    simp only [wtGo, Bool.and_eq_true, decide_eq_true_eq] at h
    have ih := wtGo_spec r (s + x) (by omega) (by omega) h.2
    refine ⟨fun y hy => ?_, by rw [List.sum_cons]; omega⟩
    rcases List.mem_cons.1 hy with rfl | hy
    · exact h.1.1
    · exact ih.1 y hy
/-- What a valid rule is. -/
structure RuleIs (r : GRule) (n : Int) : Prop where
  n0 : 0 ≤ n
  n1 : n ≤ 4000
  head : incB n r.head = true
  choice : r.choice = true → r.head ≠ []
  body : ordB n r.body = true
  plain : r.sum = false → r.w = [] ∧ r.bound = 0
  wlen : r.sum = true → r.w.length = r.body.length
  wt : r.sum = true → wtGo 0 r.w = true
  b0 : r.sum = true → 0 ≤ r.bound
  b1 : r.sum = true → r.bound ≤ 1048576
theorem ruleE_is {r : GRule} {n : Int} (h : ruleE r n = 0) : RuleIs r n := by
  unfold ruleE at h
  split at h
  · cases h
  · split at h
    · cases h
    · split at h
      · cases h
      · split at h
        · cases h
        · rename_i h1 h2 h3 h4
          have hb : ordB n r.body = true := by simpa using h3
          have hh : incB n r.head = true := by
            cases hi : incB n r.head with
            | true => rfl
            | false => exact absurd (Or.inl hi) h2
          refine ⟨by omega, by omega, hh, fun hc e => h2 (.inr ⟨hc, by rw [e]; rfl⟩), hb, fun hs => ?_, fun hs => ?_, fun hs => ?_, fun hs => ?_, fun hs => ?_⟩
          · constructor
            · cases hw : r.w with
              | nil => rfl
              | cons a b => exact absurd (.inl ⟨hs, .inl (by rw [hw]; simp)⟩) h4
            · by_cases hz : r.bound = 0
              · exact hz
              · exact absurd (.inl ⟨hs, .inr hz⟩) h4
          all_goals
            have hw : wtB r.w r.body.length = true := by
              cases hw : wtB r.w r.body.length with
              | true => rfl
              | false => exact absurd (.inr ⟨hs, .inl hw⟩) h4
            simp only [wtB, Bool.and_eq_true, decide_eq_true_eq] at hw
            first
              | exact hw.2
              | exact hw.1
              | (by_cases hz : r.bound < 0
                 · exact absurd (.inr ⟨hs, .inr (.inl hz)⟩) h4
                 · omega)
              | (by_cases hz : 1048576 < r.bound
                 · exact absurd (.inr ⟨hs, .inr (.inr hz)⟩) h4
                 · omega)
theorem RuleIs.ok {r : GRule} {n : Int} (h : RuleIs r n) : BodyOk r := by
  refine ⟨fun x hx => ?_, h.wlen, fun hs y hy => ?_, fun hs => ?_⟩
  · have := litB_bd (ordGo_mem n _ _ h.body x hx)
    have := h.n1
    omega
  · have := (wtGo_spec _ 0 (by omega) (by omega) (h.wt hs)).1 y hy; omega
  · have := (wtGo_spec _ 0 (by omega) (by omega) (h.wt hs)).2; omega
theorem defR_rule {r : GRule} {n : Int} (h : defR n r = true) : RuleIs r n := by
  simp only [defR, Bool.and_eq_true, decide_eq_true_eq] at h
  exact ruleE_is h.1.1.1
theorem inc_mem {n : Int} {xs : List Int} (h : incB n xs = true) : ∀ x ∈ xs, 1 ≤ x ∧ x ≤ n := by
  intro x hx
  unfold incB at h
  simp only [Bool.and_eq_true, List.all_eq_true, decide_eq_true_eq] at h
  have h1 := h.2 x hx
  have h2 := litB_bd (ordGo_mem n _ _ h.1 x hx)
  omega

/-- A round of the reference: the atoms up to j. -/
def fJ (f : Nat → Int) (hit : Nat → Bool) (r j : Nat) : Nat → Int := fun i => if i < j ∧ hit i = true then (r : Int) + 1 else f i
def moreJ (hit : Nat → Bool) (j : Nat) : List Int := ((List.range j).filter hit).map (fun (i : Nat) => (i : Int) + 1)
theorem moreJ_succ (hit : Nat → Bool) (j : Nat) : moreJ hit (j + 1) = if hit j = true then moreJ hit j ++ [(j : Int) + 1] else moreJ hit j := by
  unfold moreJ
  rw [List.range_succ, List.filter_append, List.map_append]
  by_cases h : hit j = true
  · rw [if_pos h]; simp [h]
  · have hf : hit j = false := by simpa using h
    rw [if_neg h]; simp [hf]
theorem moreJ_len (hit : Nat → Bool) (j : Nat) : (moreJ hit j).length ≤ j := by
  unfold moreJ
  have := List.length_filter_le hit (List.range j)
  simpa using this

/-- One atom's turn: the rules up to i have been seen. -/
def curF (f : Nat → Int) (hit : Nat → Bool) (r j : Nat) (found : Bool) : Nat → Int := fun q => if q = j ∧ found = true then (r : Int) + 1 else fJ f hit r j q
theorem curF_at (f : Nat → Int) (hit : Nat → Bool) (r j : Nat) (found : Bool) : curF f hit r j found j = if found = true then (r : Int) + 1 else f j := by
  unfold curF fJ
  cases found <;> simp
theorem curF_false (f : Nat → Int) (hit : Nat → Bool) (r j : Nat) : curF f hit r j false = fJ f hit r j := by
  funext q; simp [curF]
theorem curF_set (f : Nat → Int) (hit : Nat → Bool) (r j : Nat) : (fun q => if q = j then (r : Int) + 1 else curF f hit r j false q) = curF f hit r j true := by
  funext q
  unfold curF
  by_cases h : q = j <;> simp [h]
theorem fJ_succ (f : Nat → Int) (hit : Nat → Bool) (r j : Nat) : curF f hit r j (hit j) = fJ f hit r (j + 1) := by
  funext q
  unfold curF fJ
  by_cases h : q = j
  · subst h
    by_cases h2 : hit q = true
    · simp [h2]
    · simp [h2]
  · have : q < j + 1 ↔ q < j := by omega
    simp [h, this]
theorem fJ_zero (f : Nat → Int) (hit : Nat → Bool) (r : Nat) : fJ f hit r 0 = f := by funext q; simp [fJ]

set_option maxRecDepth 100000 in
set_option maxHeartbeats 4000000 in
theorem refRounds_any (rA : Option Addr) (rl rc : Nat) (rs : List GRule) (N : Nat) (w : World) (h : SlIs ruleR w rA rl rc rs) (hd : defB N rs = true) :
    Calls Try.prog 14 #[.int .i64 N, .slice rA rl rc] w fun e w' => ∃ A l c, e = .returned (.slice A l c) ∧ SlIs intR w' A l c (roundsL rs N) ∧ Below w.heap.size w w' := by
  have hrc := h.cap
  have hrm := h.max
  have hN : N ≤ 4000 := by
    unfold defB at hd; simp only [Bool.and_eq_true, decide_eq_true_eq] at hd; omega
  have hall : ∀ r ∈ rs, defR N r = true := by
    unfold defB at hd; simp only [Bool.and_eq_true, List.all_eq_true] at hd; exact hd.2
  have hmk := make_int N (by omega)
  have H := Lib.hid h; clear h
  have HD := Lib.hid hd; clear hd
  have HALL := Lib.hid hall; clear hall
  go_enter Try.func14, Try.ntmps14
  go_wp2
  have hB0 := Lib.hid (Blk.new w 3 (fnCells N (fun _ => 0)))
  clear hmk
  go_loopw [6, 7] (fun mv t wr => ∃ (r lm : Nat), r ≤ N ∧ t = .int .i64 ((r : Int) + 1) ∧ Blk wr w.heap.size 3 (fnCells N (stageF rs N r).1) ∧ OwnI wr (w.heap.size + 1) mv lm (stageF rs N r).2 ∧ Below w.heap.size w wr ∧ w.heap.size < wr.heap.size) (fun _ t _ => N + 1 - (intOf t).toNat)
  case atStart => exact ⟨0, 0, Nat.zero_le _, rfl, hB0.out, OwnI.nil _ _, bel_alloc _ _, by simp⟩
  case round =>
    obtain ⟨r, lm, hr, rfl, hblk, hown, hbw, hz⟩ := hrel
    obtain ⟨wo, rfl⟩ : ∃ wo : World, wo = wr := ⟨_, rfl⟩
    generalize hf : (stageF rs N r).1 = f at *
    generalize hm : (stageF rs N r).2 = m at *
    have hfb : ∀ i, 0 ≤ f i ∧ f i ≤ (r : Int) := by rw [← hf]; exact stage_bd rs N r
    have hmb : ∀ x ∈ m, 1 ≤ x ∧ x ≤ (N : Int) := by rw [← hm]; exact stage_mem rs N r
    have hml : lm ≤ 16000000 := by
      rw [hown.len, ← hm]
      have h1 := stage_len rs N r
      have h2 : r * N ≤ 4000 * 4000 := Nat.mul_le_mul (by omega) (by omega)
      omega
    obtain ⟨mA, mc, rfl, hmsl⟩ := hown.sl (by omega) (fun x hx => by have := hmb x hx; unfold I64; omega)
    have hstep : stageF rs N (r + 1) = (fun i => if f i = 0 ∧ derivB rs m ((i : Int) + 1) = true then (r : Int) + 1 else f i, m ++ ((List.range N).filter (fun (i : Nat) => decide (f i = 0) && derivB rs m ((i : Int) + 1))).map (fun (i : Nat) => (i : Int) + 1)) := by
      rw [← hf, ← hm]; rfl
    generalize hhit : (fun (i : Nat) => decide (f i = 0) && derivB rs m ((i : Int) + 1)) = hit at *
    have hhit2 : ∀ i, hit i = (decide (f i = 0) && derivB rs m ((i : Int) + 1)) := fun i => by rw [← hhit]
    have hend : stageF rs N (r + 1) = (fun i => if hit i = true then (r : Int) + 1 else f i, m ++ moreJ hit N) := by
      rw [hstep]; congr 1; funext i; rw [hhit2]; simp only [Bool.and_eq_true, decide_eq_true_eq]
    have HF := Lib.hid hf; clear hf
    have HM := Lib.hid hm; clear hm
    have HFB := Lib.hid hfb; clear hfb
    have HMB := Lib.hid hmb; clear hmb
    have HBLK := Lib.hid hblk; clear hblk
    have HOWN := Lib.hid hown; clear hown
    have HBW := Lib.hid hbw; clear hbw
    have HMSL := Lib.hid hmsl; clear hmsl
    have HSTEP := Lib.hid hstep; clear hstep
    have HHIT := Lib.hid hhit; clear hhit
    have HHIT2 := Lib.hid hhit2; clear hhit2
    have HEND := Lib.hid hend; clear hend
    by_cases hlt : r < N
    · have t1 : decide ((r : Int) + 1 ≤ (N : Int)) = true := decide_eq_true (by omega)
      go_wp2_with fail
      go_loopw [8, 9] (fun mo t wr => ∃ (j lo : Nat), j ≤ N ∧ t = .int .i64 ((j : Int) + 1) ∧ Blk wr w.heap.size 3 (fnCells N (fJ f hit r j)) ∧ OwnI wr wo.heap.size mo lo (moreJ hit j) ∧ wo.grownBy wr (some w.heap.size)) (fun _ t _ => N + 1 - (intOf t).toNat)
      case atStart => exact ⟨0, 0, Nat.zero_le _, rfl, by rw [fJ_zero]; exact HBLK.out, OwnI.nil _ _, grown_refl _ _⟩
      case round =>
        obtain ⟨j, lo, hj, rfl, hblk2, hown2, hgr⟩ := hrel
        obtain ⟨w2, rfl⟩ : ∃ w2 : World, w2 = wr := ⟨_, rfl⟩
        have hlo : lo ≤ 4000 := by rw [hown2.len]; have := moreJ_len hit j; omega
        have HBLK2 := Lib.hid hblk2; clear hblk2
        have HOWN2 := Lib.hid hown2; clear hown2
        have HGR := Lib.hid hgr; clear hgr
        by_cases hlt2 : j < N
        · have t2 : decide ((j : Int) + 1 ≤ (N : Int)) = true := decide_eq_true (by omega)
          go_wp2_with fail
          go_loopw [8, 10] (fun mo t wr => ∃ (i lo' : Nat) (found : Bool), i ≤ rl ∧ t = .int .i64 (i : Int) ∧ Blk wr w.heap.size 3 (fnCells N (curF f hit r j found)) ∧ lo' ≤ 4001 ∧ OwnI wr wo.heap.size mo lo' (if found = true then moreJ hit j ++ [(j : Int) + 1] else moreJ hit j) ∧ wo.grownBy wr (some w.heap.size) ∧
              (found = true → lo' ≤ 4001) ∧ (found = false → lo' = lo) ∧ hit j = (found || (decide (f j = 0) && (rs.drop i).any (derB m ((j : Int) + 1))))) (fun _ t _ => rl - (intOf t).toNat)
          case atStart => exact ⟨0, lo, false, Nat.zero_le _, rfl, by rw [curF_false]; exact HBLK2.out, by omega, HOWN2.out, HGR.out, by simp, by simp, by rw [HHIT2.out]; rfl⟩
          case round =>
            obtain ⟨i, lo', found, hi, rfl, hblk3, hlo3, hown3, hgr3, hl1, hl2, hh⟩ := hrel
            have H1 := Lib.hid (H.out.ext (bel_grown HBW.out hgr3 (by omega) (fun k hk => by cases hk; exact Nat.le_refl _)))
            have HM1 := Lib.hid ((HOWN.out.past hgr3 (by omega)))
            have hzz : w.heap.size < wr.heap.size := Nat.lt_of_lt_of_le hz hgr3.size
            have hzo : wo.heap.size ≤ wr.heap.size := hgr3.size
            have hcj := hblk3.cell j
            rw [fnCells_get _ _ _ hlt2] at hcj
            have hfj := hblk3.frozen j
            have HBLK3 := Lib.hid hblk3; clear hblk3
            have HOWN3 := Lib.hid hown3; clear hown3
            have HGR3 := Lib.hid hgr3; clear hgr3
            have HH := Lib.hid hh; clear hh
            by_cases hlt3 : i < rl
            · obtain ⟨ru, hx, hd⟩ := H.out.drop hlt3
              obtain ⟨b, off, hA, hl, hc, bA, bl, bc, wA, wl, wc, rfl, _, f0, f1, f2, f3, f4, f5, g1, g2, g3, g4⟩ := H1.out.rule hx
              have HR := Lib.hid (show RuleIn wr ru hA hl hc bA bl bc wA wl wc from ⟨g1, g2, g3, g4⟩)
              have hdr := HALL.out ru (List.mem_of_getElem? hx)
              have hhl := g1.len
              have hhc := g1.cap
              have hhm := g1.max
              have HHL := Lib.hid hhl; clear hhl
              have HOK := Lib.hid (defR_rule hdr).ok
              have HX := Lib.hid hx; clear hx
              have HD := Lib.hid hd; clear hd
              have G2 := Lib.hid g2; clear g2
              have G3 := Lib.hid g3; clear g3
              have G4 := Lib.hid g4; clear g4
              have HDR := Lib.hid hdr; clear hdr
              have hzi : ((j : Int) + 1 - 1) = j := by omega
              have e1 : IntKind.i64.wrap ((j : Int) + 1 - 1) = j := by rw [IntWalk.i64_in _ (by omega)]; omega
              have HZI := Lib.hid hzi
              clear hzi
              by_cases c1 : 0 < hl
              · have q1 : decide (0 < hl) = true := decide_eq_true c1
                have q2 : decide ((0 : Int) < (hl : Int)) = true := decide_eq_true (by omega)
                obtain ⟨a0, ha0, hd0⟩ := g1.drop c1
                obtain ⟨hb, hoff, rfl, _, hc0, _⟩ := g1.int ha0
                simp only [Nat.add_zero] at hc0
                have hhead : ru.head.head? = some a0 := by rw [← ha0]; exact List.head?_eq_getElem?
                have HA0 := Lib.hid ha0; clear ha0
                have HD0 := Lib.hid hd0; clear hd0
                have HHEAD := Lib.hid hhead; clear hhead
                have G1 := Lib.hid g1; clear g1
                by_cases c2 : a0 = (j : Int) + 1
                · have q3 : (a0 == (j : Int) + 1) = true := by simpa using c2
                  have C2 := Lib.hid c2; clear c2
                  generalize hzv : curF f hit r j found j = z at *
                  have HZV := Lib.hid hzv; clear hzv
                  by_cases c3 : z = 0
                  · have q4 : (z == 0) = true := by simpa using c3
                    have C3 := Lib.hid c3; clear c3
                    have hfound : found = false := by
                      cases found with
                      | false => rfl
                      | true =>
                        have := HZV.out; rw [C3.out, curF_at, if_pos rfl] at this; omega
                    subst hfound
                    have hfj0 : f j = 0 := by have := HZV.out; rw [C3.out, curF_at] at this; simpa using this
                    have HFJ0 := Lib.hid hfj0; clear hfj0
                    obtain rfl : lo' = lo := hl2 rfl
                    have hder : derB m ((j : Int) + 1) ru = bodyB ru m := by unfold derB; rw [HHEAD.out, C2.out]; simp
                    have HDER := Lib.hid hder; clear hder
                    obtain ⟨A', c', he, HMS⟩ := HM1.out.sl (by omega) (fun x hx => by have := HMB.out x hx; unfold I64; omega)
                    cases he
                    have HMS' := Lib.hid HMS
                    clear HMS
                    by_cases c4 : bodyB ru m = true
                    · have hct := c4 ▸ refBody_any ru _ _ _ _ _ _ _ _ _ _ _ _ m wr HR.out HMS'.out HOK.out
                      have HCT := Lib.hid hct; clear hct
                      have C4 := Lib.hid c4; clear c4
                      go_wp2_with fail
                      go_fit HCT.out; rintro e w1 ⟨rfl, hb1⟩
                      have hcj1 := (bcell hb1 _ j hzz).trans hcj
                      have B1 := Lib.hid (HBLK3.out.bel hb1)
                      have O1 := Lib.hid (HOWN3.out.bel hb1)
                      have GR1 := Lib.hid (grown_below HGR3.out hb1)
                      have hz1 := hb1.size
                      clear hb1
                      obtain ⟨v', w3, hrun, hown4, hg4, hat4⟩ := app1 O1.out ((j : Int) + 1) (by omega) (by omega) 24
                      have hmb4 : ∀ k, u8.ownBlock = some k → wo.heap.size ≤ k := fun k hk => (O1.out.2.lt k hk).1
                      have B3 := B1.out.grown hg4 (fun e => by have := hmb4 _ e.symm; omega)
                      have hcj3 := B3.cell j
                      rw [fnCells_get _ _ _ hlt2] at hcj3
                      have hfj3 := B3.frozen j
                      have GR3 := Lib.hid (grown_grown GR1.out hg4 (fun k hk => .inr (hmb4 k hk)))
                      have B3' := Lib.hid B3
                      have O4 := Lib.hid hown4
                      clear hg4 hat4 hmb4 B3 hown4
                      have HRUN := Lib.hid hrun; clear hrun
                      go_wp2_with (at_builtin; refine wpList_append_run rfl _ _ _ rfl _ _ rfl rfl _ _ HRUN.out ?_)
                      go_roundw
                      case rel =>
                        refine ⟨i + 1, lo' + 1, true, by omega, by go_num, ?_, by omega, ?_, grown_set GR3.out (.inl rfl) _, by omega, by simp, ?_⟩
                        · have h1 := B3'.out.set_ j (.int .i64 ((r : Int) + 1))
                          rw [fnCells_set, curF_set] at h1
                          exact h1
                        · have h1 := O4.out
                          simp only [Bool.false_eq_true, if_false] at h1
                          rw [if_pos rfl]
                          exact h1.past (grown_set (grown_refl _ _) (.inl rfl) _) (by omega)
                        · rw [HH.out, HD.out, List.any_cons, HDER.out, C4.out, decide_eq_true HFJ0.out]; rfl
                      case measure => simp [intOf]; omega
                    · have c4f : bodyB ru m = false := by simpa using c4
                      clear c4
                      have hct := c4f ▸ refBody_any ru _ _ _ _ _ _ _ _ _ _ _ _ m wr HR.out HMS'.out HOK.out
                      have HCT := Lib.hid hct; clear hct
                      have C4F := Lib.hid c4f; clear c4f
                      go_wp2_with fail
                      go_fit HCT.out; rintro e w1 ⟨rfl, hb1⟩
                      have B1 := Lib.hid (HBLK3.out.bel hb1)
                      have O1 := Lib.hid (HOWN3.out.bel hb1)
                      have GR1 := Lib.hid (grown_below HGR3.out hb1)
                      clear hb1
                      go_wp2_with fail
                      go_roundw
                      case rel =>
                        have hrel : ∃ (i' lo'' : Nat) (found : Bool), i' ≤ rl ∧ Value.int .i64 ((i : Int) + 1) = .int .i64 (i' : Int) ∧ Blk w1 w.heap.size 3 (fnCells N (curF f hit r j found)) ∧ lo'' ≤ 4001 ∧ OwnI w1 wo.heap.size u8 lo'' (if found = true then moreJ hit j ++ [(j : Int) + 1] else moreJ hit j) ∧ wo.grownBy w1 (some w.heap.size) ∧
              (found = true → lo'' ≤ 4001) ∧ (found = false → lo'' = lo') ∧ hit j = (found || (decide (f j = 0) && (rs.drop i').any (derB m ((j : Int) + 1)))) :=
                          ⟨i + 1, lo', false, by omega, by go_num, B1.out, hlo3, O1.out, GR1.out, by omega, fun _ => rfl, by rw [HH.out, HD.out, List.any_cons, HDER.out, C4F.out]; simp only [Bool.false_or]⟩
                        exact hrel
                      case measure => simp [intOf]; omega
                  · have q4 : (z == 0) = false := by simpa using c3
                    have C3 := Lib.hid c3; clear c3
                    go_wp2_with fail
                    go_roundw
                    case rel =>
                      refine ⟨i + 1, lo', found, by omega, by go_num, HBLK3.out, hlo3, HOWN3.out, HGR3.out, hl1, hl2, ?_⟩
                      cases found with
                      | true => rw [HH.out]; rfl
                      | false =>
                        have : ¬ f j = 0 := by have h1 := HZV.out; rw [curF_at] at h1; intro h2; exact C3.out (by rw [← h1]; simpa using h2)
                        rw [HH.out, decide_eq_false this]; simp
                    case measure => simp [intOf]; omega
                · have q3 : (a0 == (j : Int) + 1) = false := by simpa using c2
                  have C2 := Lib.hid c2; clear c2
                  have hder : derB m ((j : Int) + 1) ru = false := by unfold derB; rw [HHEAD.out]; simp [C2.out]
                  have HDER := Lib.hid hder; clear hder
                  go_wp2_with fail
                  go_roundw
                  case rel => exact ⟨i + 1, lo', found, by omega, by go_num, HBLK3.out, hlo3, HOWN3.out, HGR3.out, hl1, hl2, by rw [HH.out, HD.out, List.any_cons, HDER.out]; rfl⟩
                  case measure => simp [intOf]; omega
              · have q1 : decide (0 < hl) = false := decide_eq_false c1
                have q2 : decide ((0 : Int) < (hl : Int)) = false := decide_eq_false (by omega)
                have hnil : ru.head = [] := List.eq_nil_of_length_eq_zero (by have := HHL.out; omega)
                have G1 := Lib.hid g1; clear g1
                have hder : derB m ((j : Int) + 1) ru = false := by unfold derB; rw [hnil]; rfl
                clear hnil
                have HDER := Lib.hid hder; clear hder
                go_wp2_with fail
                go_roundw
                case rel => exact ⟨i + 1, lo', found, by omega, by go_num, HBLK3.out, hlo3, HOWN3.out, HGR3.out, hl1, hl2, by rw [HH.out, HD.out, List.any_cons, HDER.out]; rfl⟩
                case measure => simp [intOf]; omega
            · have hhf : hit j = found := by rw [HH.out, H.out.stop (by omega)]; simp
              have HHF := Lib.hid hhf; clear hhf
              go_wp2_with fail
              go_roundw
              case rel =>
                refine ⟨j + 1, lo', by omega, by go_num, ?_, ?_, HGR3.out⟩
                · rw [← fJ_succ, HHF.out]; exact HBLK3.out
                · rw [moreJ_succ, HHF.out]; exact HOWN3.out
              case measure => simp [intOf]; omega
        · have hjN : j = N := by omega
          have hOm := HOWN.out.past HGR.out (by omega)
          obtain ⟨mA', mc', he, hms2⟩ := hOm.sl (by omega) (fun x hx => by have := HMB.out x hx; unfold I64; omega)
          cases he
          obtain ⟨oA, oc, he, hmo2⟩ := HOWN2.out.sl (by omega) (fun x hx => by
            unfold moreJ at hx
            obtain ⟨i, hi, rfl⟩ := List.mem_map.1 hx
            have := List.mem_range.1 (List.mem_filter.1 hi).1
            unfold I64; omega)
          subst he
          have O0 : OwnI (w2.alloc (.cells #[] 3)) w2.heap.size (.slice (some ⟨w2.heap.size, 0, none⟩) 0 0) 0 [] := ⟨rfl, World.ownsRow_made _ #[] 0 (Nat.le_refl _) (by simp [maxLen]) (by simp)⟩
          obtain ⟨v1, w3, hrun1, own1, hg1, hat1⟩ := appS O0 (hms2.ext (bel_alloc _ _)) (by omega) (by simp) 24
          have hb3 : Below w2.heap.size w2 w3 := bel_grown (bel_alloc _ _) hg1 (by simp) (fun k hk => by simp [Value.ownBlock] at hk; omega)
          have hz2 : wo.heap.size ≤ w2.heap.size := HGR.out.size
          obtain ⟨v2, w4, hrun2, own2, hg2, hat2⟩ := appS own1 (hmo2.ext hb3) (by omega) hb3.size 24
          have hb4 : Below w2.heap.size w2 w4 := bel_grown hb3 hg2 hb3.size (fun k hk => by
            rcases hat1 k hk with h1 | h1
            · simp [Value.ownBlock] at h1; omega
            · simp at h1; omega)
          have HJN := Lib.hid hjN; clear hjN
          have HOM := Lib.hid hOm; clear hOm
          have HMS2 := Lib.hid hms2; clear hms2
          have HMO2 := Lib.hid hmo2; clear hmo2
          have O0 := Lib.hid O0; clear O0
          have OWN1 := Lib.hid own1; clear own1
          have HG1 := Lib.hid hg1; clear hg1
          have HAT1 := Lib.hid hat1; clear hat1
          have OWN2 := Lib.hid own2; clear own2
          have HG2 := Lib.hid hg2; clear hg2
          have HAT2 := Lib.hid hat2; clear hat2
          have HRUN1 := Lib.hid hrun1; clear hrun1
          have HRUN2 := Lib.hid hrun2; clear hrun2
          have HB3 := Lib.hid hb3; clear hb3
          have HB4 := Lib.hid hb4; clear hb4
          go_wp2_with (first
            | (at_builtin; refine wpList_append_run rfl (.tmp 72) (.tmp 73) _ rfl _ _ rfl rfl _ _ HRUN1.out ?_)
            | (at_builtin; refine wpList_append_run rfl (.tmp 74) (.tmp 75) _ rfl _ _ rfl rfl _ _ HRUN2.out ?_))
          go_roundw
          case rel =>
            have hst1 : fnCells N (stageF rs N (r + 1)).1 = fnCells N (fJ f hit r j) := by
              rw [HEND.out, HJN.out]
              unfold fnCells fJ
              congr 1; funext i
              simp [i.isLt]
            have hst2 : (stageF rs N (r + 1)).2 = [] ++ m ++ moreJ hit j := by rw [HEND.out, HJN.out]; rfl
            have hB4 := bel_trans (bel_grown HBW.out HGR.out (by omega) (fun k hk => by cases hk; exact Nat.le_refl _)) HB4.out
            refine ⟨r + 1, 0 + lm + lo, by omega, by go_num, ?_, ?_, hB4, Nat.lt_of_lt_of_le (by omega) HB4.out.size⟩
            · rw [hst1]; exact HBLK2.out.bel HB4.out
            · rw [hst2]; exact OWN2.out.mono (by omega)
          case measure => simp [intOf]; omega
    · have hrN : r = N := by omega
      have HRN := Lib.hid hrN; clear hrN
      go_wp2_with fail
      refine bodyPost_ret (results_tmp rfl _ _ _) rfl ?_
      refine ⟨_, _, _, rfl, ?_, HBW.out⟩
      have h1 := sl_of_blk HBLK.out (by omega) (fun i _ => by have := HFB.out i; unfold I64; omega)
      unfold roundsL
      have h2 : (stageF rs N N).1 = f := by rw [← HF.out, HRN.out]
      rw [h2]; exact h1

set_option maxRecDepth 100000 in
set_option maxHeartbeats 1000000 in
theorem refLeast_any (rA : Option Addr) (rl rc : Nat) (rs : List GRule) (N : Nat) (w : World) (h : SlIs ruleR w rA rl rc rs) (hd : defB N rs = true) :
    Calls Try.prog 15 #[.int .i64 N, .slice rA rl rc] w fun e w' => ∃ A l c, e = .returned (.slice A l c) ∧ SlIs intR w' A l c (leastL rs N) ∧ Below w.heap.size w w' := by
  have hN : N ≤ 4000 := by
    unfold defB at hd; simp only [Bool.and_eq_true, decide_eq_true_eq] at hd; omega
  have H := Lib.hid h; clear h
  have HD := Lib.hid hd; clear hd
  go_enter Try.func15, Try.ntmps15
  go_wp2_with fail
  go_fit (refRounds_any rA rl rc rs N w H.out HD.out); rintro e w1 ⟨oA, ol, oc, rfl, hsl, hb1⟩
  have holc := hsl.cap
  have hom := hsl.max
  have hlen : ol = N := by rw [hsl.len]; simp [roundsL]
  subst hlen
  have HSL := Lib.hid hsl; clear hsl
  have HB1 := Lib.hid hb1; clear hb1
  go_wp2_with fail
  go_loopw [6, 7] (fun v t wr => ∃ (k lv : Nat), k ≤ ol ∧ t = .int .i64 ((k : Int) + 1) ∧ OwnI wr w1.heap.size v lv (((List.range k).filter (fun (i : Nat) => decide (0 < (stageF rs ol ol).1 i))).map (fun (i : Nat) => (i : Int) + 1)) ∧ Below w1.heap.size w1 wr) (fun _ t _ => ol + 1 - (intOf t).toNat)
  case atStart => exact ⟨0, 0, Nat.zero_le _, rfl, OwnI.nil _ _, Below.refl _ _⟩
  case round =>
    obtain ⟨k, lv, hk, rfl, hown, hbw⟩ := hrel
    have hlv : lv ≤ 4000 := by
      rw [hown.len]
      have := List.length_filter_le (fun (i : Nat) => decide (0 < (stageF rs ol ol).1 i)) (List.range k)
      simp at this ⊢; omega
    have H1 := Lib.hid (HSL.out.ext hbw)
    have hzz := hbw.size
    by_cases hlt : k < ol
    · have hx : (roundsL rs ol)[k]? = some ((stageF rs ol ol).1 k) := by unfold roundsL; simp [hlt]
      generalize hz : (stageF rs ol ol).1 k = z at *
      have hst : ((List.range (k + 1)).filter (fun (i : Nat) => decide (0 < (stageF rs ol ol).1 i))).map (fun (i : Nat) => (i : Int) + 1) = if 0 < z then ((List.range k).filter (fun (i : Nat) => decide (0 < (stageF rs ol ol).1 i))).map (fun (i : Nat) => (i : Int) + 1) ++ [(k : Int) + 1] else ((List.range k).filter (fun (i : Nat) => decide (0 < (stageF rs ol ol).1 i))).map (fun (i : Nat) => (i : Int) + 1) := by
        rw [List.range_succ, List.filter_append, List.map_append]
        by_cases h0 : 0 < z
        · rw [if_pos h0]; simp [hz, h0]
        · rw [if_neg h0]; simp [hz, h0]
      obtain ⟨b, off, rfl, _, hcell, _⟩ := H1.out.int hx
      have e1 : IntKind.i64.wrap ((k : Int) + 1 - 1) = k := by rw [IntWalk.i64_in _ (by omega)]; omega
      by_cases h0 : 0 < z
      · obtain ⟨v', w3, hrun, hown3, hg3, hat3⟩ := app1 hown ((k : Int) + 1) (by omega) hzz 24
        have hb3 := bel_grown hbw hg3 hzz (fun q hq => (hown.2.lt q hq).1)
        have HX := Lib.hid hx; clear hx
        have HZ := Lib.hid hz; clear hz
        have HST := Lib.hid hst; clear hst
        have HOWN := Lib.hid hown; clear hown
        have HBW := Lib.hid hbw; clear hbw
        have HRUN := Lib.hid hrun; clear hrun
        have HOWN3 := Lib.hid hown3; clear hown3
        have HG3 := Lib.hid hg3; clear hg3
        have HAT3 := Lib.hid hat3; clear hat3
        have HB3 := Lib.hid hb3; clear hb3
        go_wp2_with (at_builtin; refine wpList_append_run rfl _ _ _ rfl _ _ rfl rfl _ _ HRUN.out ?_)
        go_roundw
        case rel => exact ⟨k + 1, lv + 1, by omega, by go_num, by rw [HST.out, if_pos h0]; exact HOWN3.out, HB3.out⟩
        case measure => simp [intOf]; omega
      · have HX := Lib.hid hx; clear hx
        have HZ := Lib.hid hz; clear hz
        have HST := Lib.hid hst; clear hst
        have HOWN := Lib.hid hown; clear hown
        have HBW := Lib.hid hbw; clear hbw
        go_wp2_with fail
        go_roundw
        case rel => exact ⟨k + 1, lv, by omega, by go_num, by rw [HST.out, if_neg h0]; exact HOWN.out, HBW.out⟩
        case measure => simp [intOf]; omega
    · have hkk : k = ol := by omega
      obtain ⟨vA, vc, hv, hsv⟩ := hown.sl (by omega) (fun x hx => by
        obtain ⟨i, hi, rfl⟩ := List.mem_map.1 hx
        have := List.mem_range.1 (List.mem_filter.1 hi).1
        unfold I64; omega)
      have HOWN := Lib.hid hown; clear hown
      have HBW := Lib.hid hbw; clear hbw
      have HKK := Lib.hid hkk; clear hkk
      have HV := Lib.hid hv; clear hv
      have HSV := Lib.hid hsv; clear hsv
      go_wp2_with fail
      refine bodyPost_ret (results_tmp rfl _ _ _) rfl ?_
      exact ⟨vA, lv, vc, by rw [← HV.out]; rfl, by have h1 := HSV.out; rw [HKK.out] at h1; exact h1, bel_trans HB1.out HBW.out⟩
end Go.Proofs.Ytcbkkjcleiibfaa

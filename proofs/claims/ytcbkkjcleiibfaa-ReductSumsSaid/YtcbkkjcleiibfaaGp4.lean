/- The contracts of gprog.named and gprog.Valid. -/
import Derived.Test.YtcbkkjcleiibfaaGp3
import Derived.Test.YtcbkkjcleiibfaaMap
namespace Go.Proofs.Ytcbkkjcleiibfaa
open Go.RowKit Go.Maps Go.WideMaps

def strL (s : ByteArray) : Lit := .string s.data.toList
theorem strL_key (s : ByteArray) : WideAt.IsKeyLit (strL s) := trivial
theorem strL_inj {a b : ByteArray} (h : strL a = strL b) : a = b := by
  obtain ⟨a⟩ := a; obtain ⟨b⟩ := b
  unfold strL at h
  injection h with h
  simp only at h
  congr 1
  exact Array.ext' h

def hasS (s : ByteArray) (seen : List ByteArray) : Bool := seen.any (fun t => decide (t = s))
theorem hasS_cons (s t : ByteArray) (r : List ByteArray) : hasS s (t :: r) = (decide (t = s) || hasS s r) := rfl
/-- The names behind those that have been seen. -/
def namesGo (seen : List ByteArray) : List ByteArray → Bool
  | [] => true
  | s :: r => !(decide (200 < s.size) || (nlB s || hasS s seen)) && namesGo (if s.size = 0 then seen else s :: seen) r
theorem namesGo_cons (seen : List ByteArray) (s : ByteArray) (r : List ByteArray) : namesGo seen (s :: r) = (!(decide (200 < s.size) || (nlB s || hasS s seen)) && namesGo (if s.size = 0 then seen else s :: seen) r) := rfl

def namedB (p : GProg) : Bool :=
  decide (0 ≤ p.n) && decide (p.n ≤ 4000) && decide ((p.names.length : Int) = p.n) && incB p.n p.shown && namesGo [] p.names

set_option maxRecDepth 100000 in
set_option maxHeartbeats 4000000 in
theorem named_any (p : GProg) (nA : Option Addr) (nl nc : Nat) (sA : Option Addr) (sl sc : Nat) (rA : Option Addr) (rl rc : Nat) (mA : Option Addr) (ml mc : Nat) (w : World) (hp : ProgIn w p nA nl nc sA sl sc rA rl rc mA ml mc) :
    Calls Try.prog 33 #[.agg #[.int .i64 p.n, .slice nA nl nc, .slice sA sl sc, .slice rA rl rc, .slice mA ml mc]] w fun e w' => e = .returned (.bool (namedB p)) ∧ Below w.heap.size w w' := by
  have hnc := hp.names.cap
  have hnm := hp.names.max
  have hmm := @run_makeMap Try.prog
  have e1 := Lib.hid hp.names.len
  have HP := Lib.hid hp; clear hp
  by_cases h0 : 0 ≤ p.n
  · by_cases h1 : p.n ≤ 4000
    · by_cases h2 : ((nl : Int) != p.n) = true
      · go_enter Try.func33, Try.ntmps33
        go_wp2_with fail
        go_ret
        exact ⟨ret_bool (by have h2' : ¬ (p.names.length : Int) = p.n := (by rw [← e1.out]; simpa using h2)
                            simp [namedB, h2']), bel_alloc _ _⟩
      · have h2f : ((nl : Int) != p.n) = false := by simpa using h2
        have h2e := Lib.hid (show (nl : Int) = p.n by simpa using h2f)
        clear h2
        by_cases h3 : incB p.n p.shown = true
        · go_enter Try.func33, Try.ntmps33
          go_wp2_with fail
          go_fit (increasing_any _ _ _ _ _ _ (HP.out.shown.ext (bel_alloc _ _)) h0 h1); rintro e w1 ⟨rfl, hb1⟩
          have hc1 := bcell hb1
          have HB1 := Lib.hid (bel_trans (bel_alloc _ _) hb1)
          have hz1 := bsz hb1
          clear hb1
          go_wp2_with fail
          have hfin : namedB p = namesGo [] p.names := by unfold namedB; rw [← e1.out, h2e.out, h3]; simp [h0, h1]
          have HFIN := Lib.hid hfin; clear hfin
          clear hc1
          go_loopw [34] (fun i wr => ∃ (k : Nat) (seen : List ByteArray) (f : Lit → Int), k ≤ nl ∧ i = .int .i64 k ∧ Below w.heap.size w wr ∧ IMap wr 9 w1.heap.size k f ∧ (∀ s, decide (0 < f (strL s)) = hasS s seen) ∧ (∀ s, 0 ≤ f (strL s) ∧ f (strL s) ≤ k) ∧ namedB p = namesGo seen (p.names.drop k)) (fun i _ => nl - (intOf i).toNat)
          case atStart => exact ⟨0, [], fun _ => 0, Nat.zero_le _, rfl, HB1.out.alloc HB1.out.size _, IMap.new _ _, fun _ => rfl, by simp, HFIN.out⟩
          case round =>
            obtain ⟨k, seen, f, hk, rfl, hbw, hown, hf, hfb, hs⟩ := hrel
            have H1 := Lib.hid (HP.out.names.ext hbw)
            have HBW := Lib.hid hbw; clear hbw
            have HF := Lib.hid hf; clear hf
            have HFB := Lib.hid hfb; clear hfb
            have HS := Lib.hid hs; clear hs
            have HOWN := Lib.hid hown; clear hown
            by_cases hlt : k < nl
            · obtain ⟨s, hx, hd⟩ := H1.out.drop hlt
              obtain ⟨b, off, rfl, _, hcell, hsm⟩ := H1.out.str hx
              have HX := Lib.hid hx; clear hx
              have HD := Lib.hid hd; clear hd
              have hcons := Lib.hid (namesGo_cons seen s (p.names.drop (k + 1)))
              by_cases hsz : 200 < s.size
              · go_wp2_with fail
                go_ret
                exact ⟨ret_bool (by rw [HS.out, HD.out, hcons.out]; simp [hsz]), HBW.out⟩
              · by_cases hnl : nlB s = true
                · go_wp2_with fail
                  go_fit (contains_nl s wr); rintro e w' ⟨rfl, rfl⟩
                  go_wp2_with fail
                  go_ret
                  exact ⟨ret_bool (by rw [HS.out, HD.out, hcons.out]; simp [hnl]), HBW.out⟩
                · have hnl2 : nlB s = false := by simpa using hnl
                  clear hnl
                  have hkey : keyOf Try.prog 9 (.string s) = some (strL s) := keyOf_string_mk Try.underlying9 hsm
                  have hlk := HOWN.out.look key_str Try.underlying82 hkey (strL_key s)
                  have hfs := HF.out s
                  have hfb := HFB.out s
                  by_cases hin : hasS s seen = true
                  · rw [hin] at hfs
                    go_wp2_with fail
                    go_fit (contains_nl s wr); rintro e w' ⟨rfl, rfl⟩
                    go_wp2_with fail
                    go_ret
                    exact ⟨ret_bool (by rw [HS.out, HD.out, hcons.out, hin]; simp), HBW.out⟩
                  · have hin2 : hasS s seen = false := by simpa using hin
                    clear hin
                    rw [hin2] at hfs
                    have hcons2 : namedB p = namesGo (if s.size = 0 then seen else s :: seen) (p.names.drop (k + 1)) := by
                      rw [HS.out, HD.out, hcons.out, hin2, hnl2]; simp [hsz]
                    have HCONS2 := Lib.hid hcons2; clear hcons2
                    by_cases hem : s.size = 0
                    · have hem2 := Lib.hid hem
                      clear hem
                      have hse : s = ByteArray.empty := by
                        obtain ⟨⟨l⟩⟩ := s
                        have h0 : l.length = 0 := hem2.out
                        cases l with
                        | nil => rfl
                        | cons a r => simp at h0
                      have HSE := Lib.hid hse; clear hse
                      have hle : s.toList = [] := by rw [ByteArray.toList_eq, HSE.out]; rfl
                      have hle2 : s.data.toList = [] := by rw [HSE.out]; rfl
                      have hle3 : s.toList.isEmpty = true := by rw [hle]; rfl
                      go_wp2_with fail
                      go_fit (contains_nl s wr); rintro e w' ⟨rfl, rfl⟩
                      go_wp2_with fail
                      go_roundw
                      case rel => exact ⟨k + 1, seen, f, by omega, by go_num, HBW.out, HOWN.out.mono (by omega), HF.out, fun s => by have := HFB.out s; omega, by rw [HCONS2.out, if_pos hem2.out]⟩
                      case measure => simp [intOf]; omega
                    · have hem2 := Lib.hid hem
                      clear hem
                      have hle3 : s.toList.isEmpty = false := by
                        rw [ByteArray.toList_eq]
                        obtain ⟨⟨l⟩⟩ := s
                        cases l with
                        | nil => exact absurd rfl hem2.out
                        | cons a r => rfl
                      obtain ⟨w', f', hput, hown', hfe, hfn, hgr⟩ := HOWN.out.put key_str Try.underlying82 hkey (strL_key s) (by unfold maxLen; omega) (f (strL s) + 1) (WalkArith.wf_i64 (by omega))
                      have HOWN' := Lib.hid hown'; clear hown'
                      have HFE := Lib.hid hfe; clear hfe
                      have HFN := Lib.hid hfn; clear hfn
                      have HGR := Lib.hid hgr; clear hgr
                      go_wp2_with fail
                      go_fit (contains_nl s wr); rintro e w' ⟨rfl, rfl⟩
                      go_wp2_with fail
                      go_roundw
                      case rel =>
                        refine ⟨k + 1, s :: seen, f', by omega, by go_num, HBW.out.grown HGR.out HBW.out.size (fun j hj => by cases hj; exact HB1.out.size), HOWN'.out, fun s' => ?_, fun s' => ?_, by rw [HCONS2.out, if_neg hem2.out]⟩
                        · by_cases he : s' = s
                          · subst he
                            rw [HFE.out, decide_eq_true (by omega), hasS_cons, decide_eq_true rfl, Bool.true_or]
                          · rw [HFN.out _ (fun hh => he (strL_inj hh)), HF.out s', hasS_cons, decide_eq_false (fun h => he h.symm), Bool.false_or]
                        · by_cases he : s' = s
                          · subst he
                            rw [HFE.out]; omega
                          · have := HFB.out s'
                            rw [HFN.out _ (fun hh => he (strL_inj hh))]; omega
                      case measure => simp [intOf]; omega
            · go_wp2
              go_ret
              exact ⟨ret_bool (by rw [HS.out, H1.out.stop (by omega)]; rfl), HBW.out⟩
        · have h3f : incB p.n p.shown = false := by simpa using h3
          clear h3
          go_enter Try.func33, Try.ntmps33
          go_wp2_with fail
          go_fit (increasing_any _ _ _ _ _ _ (HP.out.shown.ext (bel_alloc _ _)) h0 h1); rintro e w1 ⟨rfl, hb1⟩
          have HB1 := Lib.hid (bel_trans (bel_alloc _ _) hb1)
          clear hb1
          go_wp2_with fail
          go_ret
          exact ⟨ret_bool (by simp [namedB, h3f]), HB1.out⟩
    · go_enter Try.func33, Try.ntmps33
      go_wp2_with fail
      go_ret
      exact ⟨ret_bool (by simp [namedB]; omega), bel_alloc _ _⟩
  · go_enter Try.func33, Try.ntmps33
    go_wp2_with fail
    go_ret
    exact ⟨ret_bool (by simp [namedB]; omega), bel_alloc _ _⟩
end Go.Proofs.Ytcbkkjcleiibfaa

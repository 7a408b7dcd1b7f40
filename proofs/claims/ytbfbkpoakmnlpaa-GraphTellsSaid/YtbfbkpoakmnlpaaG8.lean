/- Several texts in one: Rva, Rvb. -/
import Derived.Test.YtbfbkpoakmnlpaaG4
import Derived.Test.YtbfbkpoakmnlpaaG1
import Derived.Test.YtbfbkpoakmnlpaaG2
import Derived.Test.YtbfbkpoakmnlpaaG6
/- Contracts of the reference: names, Valid. -/
namespace Go.Proofs.Ytbfbkpoakmnlpaa
open Go.RowKit

/-- The names that have been seen: those of the list that are not empty. -/
def SeenOf (seen l : List ByteArray) : Prop := ∀ s, hasS s seen = true ↔ (s.size ≠ 0 ∧ s ∈ l)
theorem SeenOf.nil : SeenOf [] [] := fun s => by simp [hasS]
theorem SeenOf.step {seen l : List ByteArray} (h : SeenOf seen l) (s : ByteArray) : SeenOf (if s.size = 0 then seen else s :: seen) (l ++ [s]) := fun t => by
  by_cases h0 : s.size = 0
  · rw [if_pos h0, h t, List.mem_append, List.mem_singleton]
    constructor
    · rintro ⟨h1, h2⟩; exact ⟨h1, .inl h2⟩
    · rintro ⟨h1, h2 | rfl⟩
      · exact ⟨h1, h2⟩
      · exact absurd h0 h1
  · rw [if_neg h0, hasS_cons, Bool.or_eq_true, decide_eq_true_eq, h t, List.mem_append, List.mem_singleton]
    constructor
    · rintro (rfl | ⟨h1, h2⟩)
      · exact ⟨h0, .inr rfl⟩
      · exact ⟨h1, .inl h2⟩
    · rintro ⟨h1, h2 | rfl⟩
      · exact .inr ⟨h1, h2⟩
      · exact .inl rfl
theorem empty_size (s : ByteArray) : s.toList.isEmpty = decide (s.size = 0) := by
  rw [ByteArray.toList_eq]
  obtain ⟨⟨l⟩⟩ := s
  cases l with
  | nil => rfl
  | cons a r => rfl
set_option maxRecDepth 100000 in
set_option maxHeartbeats 2000000 in
theorem refNames_any (nA : Option Addr) (nl nc : Nat) (ns : List ByteArray) (w : World) (h : SlIs strR w nA nl nc ns) :
    Calls Try.prog 39 #[.slice nA nl nc] w fun e w' => e = .returned (.bool (namesGo [] ns)) ∧ Below w.heap.size w w' := by
  have hnc := h.cap
  have hnm := h.max
  have H := Lib.hid h; clear h
  go_enter Try.func39, Try.ntmps39
  go_wp2_with fail
  go_loopw [3] (fun t wr => ∃ (k : Nat) (seen : List ByteArray), k ≤ nl ∧ t = .int .i64 (k : Int) ∧ Below w.heap.size w wr ∧ SeenOf seen (ns.take k) ∧ namesGo [] ns = namesGo seen (ns.drop k)) (fun t _ => nl - (intOf t).toNat)
  case atStart => exact ⟨0, [], Nat.zero_le _, rfl, Below.refl _ _, SeenOf.nil, rfl⟩
  case round =>
    obtain ⟨k, seen, hk, rfl, hbw, hse, hs⟩ := hrel
    have HBW := Lib.hid hbw
    clear hbw
    by_cases hlt : k < nl
    · obtain ⟨s, hx, hd⟩ := H.out.drop hlt
      obtain ⟨b, off, rfl, hbl, hcell0, hsm⟩ := H.out.str hx
      have hcell := (HBW.out.cell (p := ⟨b, off + k, none⟩) hbl).trans hcell0
      have i0 : (0 : Int) ≤ (k : Int) := by omega
      have i1 : (k : Int) < (nl : Int) := by omega
      have hts : ns.take (k + 1) = ns.take k ++ [s] := by rw [List.take_add_one, hx]; rfl
      rw [hd, namesGo_cons] at hs
      have hst := hse.step s
      rw [← hts] at hst
      by_cases hsz : 200 < s.size
      · rw [decide_eq_true hsz] at hs
        have HX := Lib.hid hx; clear hx
        have HD := Lib.hid hd; clear hd
        have HS := Lib.hid hs; clear hs
        have HSE := Lib.hid hse; clear hse
        have HST := Lib.hid hst; clear hst
        have HTS := Lib.hid hts; clear hts
        have HCELL0 := Lib.hid hcell0; clear hcell0
        go_wp2_with fail
        go_ret
        exact ⟨ret_bool (by rw [HS.out]; rfl), HBW.out⟩
      · rw [decide_eq_false hsz] at hs
        have cN := fun W => contains_nl s W
        generalize nlB s = nb at *
        cases nb with
        | true =>
          have HX := Lib.hid hx; clear hx
          have HD := Lib.hid hd; clear hd
          have HS := Lib.hid hs; clear hs
          have HSE := Lib.hid hse; clear hse
          have HST := Lib.hid hst; clear hst
          have HTS := Lib.hid hts; clear hts
          have HCELL0 := Lib.hid hcell0; clear hcell0
          have CN := Lib.hid cN; clear cN
          go_wp2_with fail
          go_fit (CN.out _); rintro e w' ⟨rfl, rfl⟩
          go_wp2_with fail
          go_ret
          exact ⟨ret_bool (by rw [HS.out]; rfl), HBW.out⟩
        | false =>
          rw [Bool.false_or, Bool.false_or] at hs
          have hss := hse s
          obtain ⟨wo, rfl⟩ : ∃ wo : World, wo = wr := ⟨_, rfl⟩
          have HX := Lib.hid hx; clear hx
          have HD := Lib.hid hd; clear hd
          have HS := Lib.hid hs; clear hs
          have HSE := Lib.hid hse; clear hse
          have HST := Lib.hid hst; clear hst
          have HTS := Lib.hid hts; clear hts
          have HCELL0 := Lib.hid hcell0; clear hcell0
          have CN := Lib.hid cN; clear cN
          have HSS := Lib.hid hss; clear hss
          go_wp2_with fail
          go_fit (CN.out _); rintro e w' ⟨rfl, rfl⟩
          go_wp2_with fail
          go_loopw [4] (fun t wr => ∃ (j : Nat), j ≤ k ∧ t = .int .i64 (j : Int) ∧ Below w.heap.size w wr ∧ (s.size ≠ 0 → s ∉ ns.take j)) (fun t _ => k - (intOf t).toNat)
          case atStart => exact ⟨0, Nat.zero_le _, rfl, HBW.out, by simp⟩
          case round =>
            obtain ⟨j, hj, rfl, hbw2, hno⟩ := hrel
            by_cases hlt2 : j < k
            · obtain ⟨t, hx2, hd2⟩ := H.out.drop (show j < nl by omega)
              obtain ⟨b2, off2, he2, hbl2, hcell2, hsm2⟩ := H.out.str hx2
              cases he2
              have c1 := (hbw2.cell (p := ⟨b, off + k, none⟩) hbl).trans HCELL0.out
              have c2 := (hbw2.cell (p := ⟨b, off + j, none⟩) hbl).trans hcell2
              have j0 : (0 : Int) ≤ (j : Int) := by omega
              have j1 : (j : Int) < (nl : Int) := by omega
              have hes := empty_size s
              clear hcell
              by_cases h0 : s.size = 0
              · have e1 : s.toList.isEmpty = true := by rw [hes]; simp [h0]
                have hno2 : s.size ≠ 0 → s ∉ ns.take (j + 1) := fun h => absurd h0 h
                have HNO := Lib.hid hno; clear hno
                have HNO2 := Lib.hid hno2; clear hno2
                have HES := Lib.hid hes; clear hes
                have HX2 := Lib.hid hx2; clear hx2
                have HD2 := Lib.hid hd2; clear hd2
                have H0 := Lib.hid h0; clear h0
                have HCELL2 := Lib.hid hcell2; clear hcell2
                go_wp2_with fail
                refine wp_region_later [(⟨b, off + k, none⟩, .string s), (⟨b, off + j, none⟩, .string t)] (by kernel_rfl) (by kernel_rfl) (by simp [go_sem, *]) ?_
                intro hk; simp only [List.forall_mem_cons] at hk; obtain ⟨k1_0, k1_1, kz⟩ := hk; clear kz
                repeat go_big_quiet_step (fail)
                refine wpQuiet_nil ?_
                rintro w2 ⟨u1, rfl⟩
                have HU1 := Lib.hid u1.h
                clear k1_0 k1_1
                have hbu := bel_trans hbw2 HU1.out
                have HBW2 := Lib.hid hbw2; clear hbw2
                have HBU := Lib.hid hbu; clear hbu
                go_wp2_with fail
                go_roundw
                case rel => exact ⟨j + 1, by omega, by go_num, HBU.out, HNO2.out⟩
                case measure => simp [intOf]; omega
              · have e1 : s.toList.isEmpty = false := by rw [hes]; simp [h0]
                by_cases he : s = t
                · have hin : s ∈ ns.take k := List.mem_iff_getElem?.2 ⟨j, by rw [List.getElem?_take, if_pos hlt2, hx2, he]⟩
                  have hh := HSS.out.2 ⟨h0, hin⟩
                  have e2 : (s.toList == t.toList) = true := by rw [he]; exact beq_self_eq_true _
                  have HNO := Lib.hid hno; clear hno
                  have HES := Lib.hid hes; clear hes
                  have HX2 := Lib.hid hx2; clear hx2
                  have HD2 := Lib.hid hd2; clear hd2
                  have H0 := Lib.hid h0; clear h0
                  have HCELL2 := Lib.hid hcell2; clear hcell2
                  have HE := Lib.hid he; clear he
                  have HH := Lib.hid hh; clear hh
                  have HIN := Lib.hid hin; clear hin
                  go_wp2_with fail
                  refine wp_region_later [(⟨b, off + k, none⟩, .string s), (⟨b, off + j, none⟩, .string t)] (by kernel_rfl) (by kernel_rfl) (by simp [go_sem, *]) ?_
                  intro hk; simp only [List.forall_mem_cons] at hk; obtain ⟨k1_0, k1_1, kz⟩ := hk; clear kz
                  repeat go_big_quiet_step (fail)
                  refine wpQuiet_nil ?_
                  rintro w2 ⟨u1, rfl⟩
                  have HU1 := Lib.hid u1.h
                  clear k1_0 k1_1
                  have hbu := bel_trans hbw2 HU1.out
                  have HBW2 := Lib.hid hbw2; clear hbw2
                  have HBU := Lib.hid hbu; clear hbu
                  go_wp2_with fail
                  go_ret
                  exact ⟨ret_bool (by rw [HS.out, HH.out]; rfl), HBU.out⟩
                · have e2 : (s.toList == t.toList) = false := by
                    rw [Bool.eq_false_iff]; intro h; have h := eq_of_beq h; rw [ByteArray.toList_eq, ByteArray.toList_eq] at h
                    exact he (by obtain ⟨⟨a⟩⟩ := s; obtain ⟨⟨c⟩⟩ := t; simp at h; rw [h])
                  have hno2 : s.size ≠ 0 → s ∉ ns.take (j + 1) := fun h => by
                    rw [List.take_add_one, hx2, List.mem_append]
                    rintro (h1 | h1)
                    · exact hno h h1
                    · simp at h1; exact he h1
                  have HNO := Lib.hid hno; clear hno
                  have HNO2 := Lib.hid hno2; clear hno2
                  have HES := Lib.hid hes; clear hes
                  have HX2 := Lib.hid hx2; clear hx2
                  have HD2 := Lib.hid hd2; clear hd2
                  have H0 := Lib.hid h0; clear h0
                  have HCELL2 := Lib.hid hcell2; clear hcell2
                  have HE := Lib.hid he; clear he
                  go_wp2_with fail
                  refine wp_region_later [(⟨b, off + k, none⟩, .string s), (⟨b, off + j, none⟩, .string t)] (by kernel_rfl) (by kernel_rfl) (by simp [go_sem, *]) ?_
                  intro hk; simp only [List.forall_mem_cons] at hk; obtain ⟨k1_0, k1_1, kz⟩ := hk; clear kz
                  repeat go_big_quiet_step (fail)
                  refine wpQuiet_nil ?_
                  rintro w2 ⟨u1, rfl⟩
                  have HU1 := Lib.hid u1.h
                  clear k1_0 k1_1
                  have hbu := bel_trans hbw2 HU1.out
                  have HBW2 := Lib.hid hbw2; clear hbw2
                  have HBU := Lib.hid hbu; clear hbu
                  go_wp2_with fail
                  go_roundw
                  case rel => exact ⟨j + 1, by omega, by go_num, HBU.out, HNO2.out⟩
                  case measure => simp [intOf]; omega
            · have hjk : j = k := by omega
              subst hjk
              have hhs : hasS s seen = false := by
                rw [Bool.eq_false_iff]
                intro h
                obtain ⟨h1, h2⟩ := HSS.out.1 h
                exact hno h1 h2
              have hs2 : namesGo [] ns = namesGo (if s.size = 0 then seen else s :: seen) (ns.drop (j + 1)) := by rw [HS.out, hhs]; simp
              have HBW2 := Lib.hid hbw2; clear hbw2
              have HNO := Lib.hid hno; clear hno
              have HHS := Lib.hid hhs; clear hhs
              have HS2 := Lib.hid hs2; clear hs2
              go_wp2_with fail
              go_roundw
              case rel => exact ⟨j + 1, _, by omega, by go_num, HBW2.out, HST.out, HS2.out⟩
              case measure => simp [intOf]; omega
    · rw [H.out.stop (show nl ≤ k by omega), show namesGo seen [] = true from rfl] at hs
      have HS := Lib.hid hs; clear hs
      have HSE := Lib.hid hse; clear hse
      go_wp2_with fail
      go_ret
      exact ⟨ret_bool (by rw [HS.out]), HBW.out⟩
end Go.Proofs.Ytbfbkpoakmnlpaa
/- Contract of the reference: Valid. -/
namespace Go.Proofs.Ytbfbkpoakmnlpaa
open Go.RowKit

theorem named_no {p : GProg} (h : namedB p = false) : validE p = 170 := by unfold validE; rw [h]; rfl
set_option maxRecDepth 100000 in
set_option maxHeartbeats 8000000 in
theorem refValid_any (p : GProg) (nA : Option Addr) (nl nc : Nat) (sA : Option Addr) (sl sc : Nat) (rA : Option Addr) (rl rc : Nat) (mA : Option Addr) (ml mc : Nat) (w : World) (hp : ProgIn w p nA nl nc sA sl sc rA rl rc mA ml mc) :
    Calls Try.prog 17 #[.agg #[.int .i64 p.n, .slice nA nl nc, .slice sA sl sc, .slice rA rl rc, .slice mA ml mc]] w fun e w' => e = .returned (.int .i64 (validE p)) ∧ Below w.heap.size w w' := by
  have hnc := hp.names.cap
  have hnm := hp.names.max
  have hrc := hp.rules.cap
  have hrm := hp.rules.max
  have hmc := hp.min.cap
  have hmm := hp.min.max
  have e0 := hp.names.len
  have e1 := hp.rules.len
  have e2 := hp.min.len
  have hb0 := bel_alloc w (.cells #[.int .i64 p.n, .slice nA nl nc, .slice sA sl sc, .slice rA rl rc, .slice mA ml mc] 27)
  have hx0 := Blk.new w 27 #[.int .i64 p.n, .slice nA nl nc, .slice sA sl sc, .slice rA rl rc, .slice mA ml mc]
  have cN := fun W (hb : Below w.heap.size w W) => refNames_any nA nl nc p.names W (hp.names.ext hb)
  have cS := fun W (hb : Below w.heap.size w W) => refAtoms_any sA sl sc p.shown p.n W (hp.shown.ext hb)
  have hnd : namedB p = (decide (0 ≤ p.n) && decide (p.n ≤ 4000) && decide ((nl : Int) = p.n) && incB p.n p.shown && namesGo [] p.names) := by rw [e0]; rfl
  generalize namesGo [] p.names = nb at *
  generalize incB p.n p.shown = ib at *
  have hpr := hp.rules
  have hpm := hp.min
  have hI := hp.n
  have HB0 := Lib.hid hb0; clear hb0
  have HX0 := Lib.hid hx0; clear hx0
  have CN := Lib.hid cN; clear cN
  have CS := Lib.hid cS; clear cS
  have E0 := Lib.hid e0; clear e0
  have E1 := Lib.hid e1; clear e1
  have E2 := Lib.hid e2; clear e2
  clear hp
  by_cases h0 : p.n < 0
  · have hE := named_no (p := p) (by rw [hnd, decide_eq_false (by omega)]; rfl)
    have HND := Lib.hid hnd; clear hnd
    have HE := Lib.hid hE; clear hE
    have HPR := Lib.hid hpr; clear hpr
    have HPM := Lib.hid hpm; clear hpm
    go_enter Try.func17, Try.ntmps17
    go_wp2_with fail
    go_ret
    exact ⟨ret_int HE.out.symm, HB0.out⟩
  by_cases h1 : 4000 < p.n
  · have hE := named_no (p := p) (by rw [hnd, decide_eq_false (show ¬ p.n ≤ 4000 by omega)]; simp)
    have HND := Lib.hid hnd; clear hnd
    have HE := Lib.hid hE; clear hE
    have HPR := Lib.hid hpr; clear hpr
    have HPM := Lib.hid hpm; clear hpm
    go_enter Try.func17, Try.ntmps17
    go_wp2_with fail
    go_ret
    exact ⟨ret_int HE.out.symm, HB0.out⟩
  by_cases h2 : (nl : Int) = p.n
  case neg =>
    have hE := named_no (p := p) (by rw [hnd, decide_eq_false h2]; simp)
    have h2' : ((nl : Int) != p.n) = true := by simp [h2]
    have HND := Lib.hid hnd; clear hnd
    have HE := Lib.hid hE; clear hE
    have HPR := Lib.hid hpr; clear hpr
    have HPM := Lib.hid hpm; clear hpm
    have H2 := Lib.hid h2; clear h2
    go_enter Try.func17, Try.ntmps17
    go_wp2_with fail
    go_ret
    exact ⟨ret_int HE.out.symm, HB0.out⟩
  have h2' : ((nl : Int) != p.n) = false := by simp [h2]
  rw [decide_eq_true (show 0 ≤ p.n by omega), decide_eq_true (show p.n ≤ 4000 by omega), decide_eq_true h2, Bool.true_and, Bool.true_and, Bool.true_and] at hnd
  have H2 := Lib.hid h2; clear h2
  cases nb with
  | false =>
    have hE := named_no (p := p) (by rw [hnd]; simp)
    have HND := Lib.hid hnd; clear hnd
    have HE := Lib.hid hE; clear hE
    have HPR := Lib.hid hpr; clear hpr
    have HPM := Lib.hid hpm; clear hpm
    go_enter Try.func17, Try.ntmps17
    go_wp2_with fail
    go_fit (CN.out _ HB0.out); rintro e w1 ⟨rfl, hb1⟩
    have HB1 := Lib.hid (bel_trans HB0.out hb1)
    clear hb1
    go_wp2_with fail
    go_ret
    exact ⟨ret_int HE.out.symm, HB1.out⟩
  | true =>
    rw [Bool.and_true] at hnd
    cases ib with
    | false =>
      have hE := named_no hnd
      have HND := Lib.hid hnd; clear hnd
      have HE := Lib.hid hE; clear hE
      have HPR := Lib.hid hpr; clear hpr
      have HPM := Lib.hid hpm; clear hpm
      go_enter Try.func17, Try.ntmps17
      go_wp2_with fail
      go_fit (CN.out _ HB0.out); rintro e w1 ⟨rfl, hb1⟩
      have hx1 := HX0.out.bel hb1
      obtain ⟨p0, p1, p2, p3, p4, p5⟩ := pcells hx1
      have HB1 := Lib.hid (bel_trans HB0.out hb1)
      clear hb1
      have HX1 := Lib.hid hx1; clear hx1
      go_wp2_with fail
      go_fit (CS.out _ HB1.out); rintro e w2 ⟨rfl, hb2⟩
      have HB2 := Lib.hid (bel_trans HB1.out hb2)
      clear hb2
      go_wp2_with fail
      go_ret
      exact ⟨ret_int HE.out.symm, HB2.out⟩
    | true =>
      have hE1 : validE p = (if 40000 < p.rules.length then 171 else if rulesE p.n p.rules ≠ 0 then rulesE p.n p.rules else if 8 < p.min.length then 175 else if minGoE p.n none p.min = false then 175 else 0) := by
        unfold validE; rw [hnd, if_neg (by simp)]
      rw [← E1.out, ← E2.out] at hE1
      have HND := Lib.hid hnd; clear hnd
      by_cases h40 : 40000 < rl
      · have hE := hE1.trans (if_pos h40)
        have h40' : (40000 : Int) < (rl : Int) := by omega
        have HE := Lib.hid hE; clear hE
        have HE1 := Lib.hid hE1; clear hE1
        have HPR := Lib.hid hpr; clear hpr
        have HPM := Lib.hid hpm; clear hpm
        go_enter Try.func17, Try.ntmps17
        go_wp2_with fail
        go_fit (CN.out _ HB0.out); rintro e w1 ⟨rfl, hb1⟩
        have hx1 := HX0.out.bel hb1
        obtain ⟨p0, p1, p2, p3, p4, p5⟩ := pcells hx1
        have HB1 := Lib.hid (bel_trans HB0.out hb1)
        clear hb1
        have HX1 := Lib.hid hx1; clear hx1
        go_wp2_with fail
        go_fit (CS.out _ HB1.out); rintro e w2 ⟨rfl, hb2⟩
        have hx2 := HX1.out.bel hb2
        clear p0 p1 p2 p3 p4 p5
        obtain ⟨p0, p1, p2, p3, p4, p5⟩ := pcells hx2
        have HB2 := Lib.hid (bel_trans HB1.out hb2)
        clear hb2
        have HX2 := Lib.hid hx2; clear hx2
        go_wp2_with fail
        go_ret
        exact ⟨ret_int HE.out.symm, HB2.out⟩
      rw [if_neg h40] at hE1
      have HE1 := Lib.hid hE1; clear hE1
      have HPR := Lib.hid hpr; clear hpr
      have HPM := Lib.hid hpm; clear hpm
      go_enter Try.func17, Try.ntmps17
      go_wp2_with fail
      go_fit (CN.out _ HB0.out); rintro e w1 ⟨rfl, hb1⟩
      have hx1 := HX0.out.bel hb1
      obtain ⟨p0, p1, p2, p3, p4, p5⟩ := pcells hx1
      have HB1 := Lib.hid (bel_trans HB0.out hb1)
      clear hb1
      have HX1 := Lib.hid hx1; clear hx1
      go_wp2_with fail
      go_fit (CS.out _ HB1.out); rintro e w2 ⟨rfl, hb2⟩
      have hx2 := HX1.out.bel hb2
      clear p0 p1 p2 p3 p4 p5
      obtain ⟨p0, p1, p2, p3, p4, p5⟩ := pcells hx2
      have HB2 := Lib.hid (bel_trans HB1.out hb2)
      clear hb2
      have HX2 := Lib.hid hx2; clear hx2
      go_wp2_with fail
      clear HX1 HX0 HB0 HB1 CN CS
      clear p0 p1 p2 p3 p4 p5
      go_loopw [3] (fun t wr => ∃ (k : Nat), k ≤ rl ∧ t = .int .i64 (k : Int) ∧ Below w2.heap.size w2 wr ∧ rulesE p.n p.rules = rulesE p.n (p.rules.drop k)) (fun t _ => rl - (intOf t).toNat)
      case atStart => exact ⟨0, Nat.zero_le _, rfl, Below.refl _ _, rfl⟩
      case round =>
        obtain ⟨k, hk, rfl, hbw, hs⟩ := hrel
        have hx3 := HX2.out.bel hbw
        obtain ⟨p0, p1, p2, p3, p4, p5⟩ := pcells hx3
        have HB3 := Lib.hid (bel_trans HB2.out hbw)
        have HX3 := Lib.hid hx3; clear hx3
        have HBW := Lib.hid hbw; clear hbw
        by_cases hlt : k < rl
        · obtain ⟨r, hx, hd⟩ := HPR.out.drop hlt
          obtain ⟨b, off, hA, hl, hc, bA, bl, bc, wA, wl, wc, rfl, _, f0, f1, f2, f3, f4, f5, g1, g2, g3, g4⟩ := (HPR.out.ext HB3.out).rule hx
          have HR := Lib.hid (show RuleIn wr r hA hl hc bA bl bc wA wl wc from ⟨g1, g2, g3, g4⟩)
          clear g1 g2 g3 g4
          have i0 : (0 : Int) ≤ (k : Int) := by omega
          have i1 : (k : Int) < (rl : Int) := by omega
          rw [hd, show rulesE p.n (r :: p.rules.drop (k + 1)) = if ruleE r p.n = 0 then rulesE p.n (p.rules.drop (k + 1)) else ruleE r p.n from rfl] at hs
          have cR := fun W hb => refRule_any r hA hl hc bA bl bc wA wl wc p.n W (HR.out.ext hb)
          generalize ruleE r p.n = re at *
          have HX := Lib.hid hx; clear hx
          have HD := Lib.hid hd; clear hd
          have CR := Lib.hid cR; clear cR
          go_wp2_with fail
          refine wp_region_later [(⟨w.heap.size, 0, none⟩, .int .i64 p.n), (⟨w.heap.size, 3, none⟩, .slice (some ⟨b, off, none⟩) rl rc), (⟨b, off + k * 6, none⟩, .bool r.choice), (⟨b, off + k * 6 + 1, none⟩, .slice hA hl hc), (⟨b, off + k * 6 + 2, none⟩, .bool r.sum), (⟨b, off + k * 6 + 3, none⟩, .int .i64 r.bound), (⟨b, off + k * 6 + 4, none⟩, .slice bA bl bc), (⟨b, off + k * 6 + 5, none⟩, .slice wA wl wc)] (by kernel_rfl) (by kernel_rfl) (by simp [go_sem, *]) ?_
          intro hk; simp only [List.forall_mem_cons] at hk; obtain ⟨k8_0, k8_1, k8_2, k8_3, k8_4, k8_5, k8_6, k8_7, kz⟩ := hk; clear kz
          repeat go_big_quiet_step ((first | (go_at_call 41; exact Calls.later (CR.out _ (Later.h _)))))
          refine wpQuiet_nil ?_
          rintro w2 ⟨u8, rfl⟩
          have HU8 := Lib.hid u8.h
          clear k8_0 k8_1 k8_2 k8_3 k8_4 k8_5 k8_6 k8_7
          have HB4 := Lib.hid (bel_trans HB3.out HU8.out)
          by_cases hre : re = 0
          · subst hre
            rw [if_pos rfl] at hs
            have hbw4 := bel_trans HBW.out HU8.out
            have HS := Lib.hid hs; clear hs
            have HBW4 := Lib.hid hbw4; clear hbw4
            go_wp2_with fail
            go_roundw
            case rel => exact ⟨k + 1, by omega, by go_num, HBW4.out, HS.out⟩
            case measure => simp [intOf]; omega
          · have hre2 : (re != 0) = true := by simp [hre]
            rw [if_neg hre] at hs
            have hE : validE p = re := by rw [HE1.out, if_pos (by rw [hs]; exact hre), hs]
            have HS := Lib.hid hs; clear hs
            have HE := Lib.hid hE; clear hE
            have HRE := Lib.hid hre; clear hre
            go_wp2_with fail
            go_ret
            exact ⟨ret_int HE.out.symm, HB4.out⟩
        · have hE2 : validE p = if 8 < ml then 175 else if minGoE p.n none p.min = false then 175 else 0 := by
            rw [HE1.out, hs, HPR.out.stop (show rl ≤ k by omega)]; rfl
          clear hs
          by_cases h8 : 8 < ml
          · rw [if_pos h8] at hE2
            have h8' : (8 : Int) < (ml : Int) := by omega
            have HE2 := Lib.hid hE2; clear hE2
            go_wp2_with fail
            go_ret
            exact ⟨ret_int HE2.out.symm, HB3.out⟩
          rw [if_neg h8] at hE2
          obtain ⟨wo, rfl⟩ : ∃ wo : World, wo = wr := ⟨_, rfl⟩
          clear HBW HX2 HE1 HPR HB2
          have HE2 := Lib.hid hE2; clear hE2
          go_wp2_with fail
          clear p0 p1 p2 p3 p4 p5
          go_loopw [5] (fun t wr => ∃ (j : Nat), j ≤ ml ∧ t = .int .i64 (j : Int) ∧ Below wo.heap.size wo wr ∧ minGoE p.n none p.min = minGoE p.n (prevAt p.min j) (p.min.drop j)) (fun t _ => ml - (intOf t).toNat)
          case atStart => exact ⟨0, Nat.zero_le _, rfl, Below.refl _ _, rfl⟩
          case round =>
            obtain ⟨j, hj, rfl, hbw, hs⟩ := hrel
            have hx4 := HX3.out.bel hbw
            obtain ⟨p0, p1, p2, p3, p4, p5⟩ := pcells hx4
            have HB4 := Lib.hid (bel_trans HB3.out hbw)
            have HX4 := Lib.hid hx4; clear hx4
            have HBW := Lib.hid hbw; clear hbw
            by_cases hlt2 : j < ml
            · obtain ⟨m, hx, hd⟩ := HPM.out.drop hlt2
              obtain ⟨b, off, bA, bl, bc, wA, wl, wc, rfl, hbz, f0, f1, f2, g2, g3, g4⟩ := (HPM.out.ext HB4.out).min hx
              have j0 : (0 : Int) ≤ (j : Int) := by omega
              have j1 : (j : Int) < (ml : Int) := by omega
              rw [hd, minGoE_cons] at hs
              have hbl := g3.len
              have hwl := g4.len
              have hok : minOk p.n m = (ordB p.n m.lits && (wtGo 0 m.w && decide (wl = bl)) && decide (-2147483647 ≤ m.level) && decide (m.level ≤ 2147483647)) := by rw [hwl, hbl]; rfl
              have hT := totalGo_wt m.w 0 (by omega)
              have cL := fun W (hb : Below wr.heap.size wr W) => refLits_any bA bl bc m.lits p.n W (g3.ext hb) (by omega) (by omega)
              have cT := fun W (hb : Below wr.heap.size wr W) => refTotal_any wA wl wc m.w 1 W (g4.ext hb) (by omega)
              generalize totalGo 1 0 m.w = tq at *
              generalize wtGo 0 m.w = tb at *
              generalize ordB p.n m.lits = ob at *
              generalize m.level = lev at *
              generalize minOk p.n m = ok at *
              have g2a := g2.1
              have g2b := g2.2
              have HX := Lib.hid hx; clear hx
              have HD := Lib.hid hd; clear hd
              have HBL := Lib.hid hbl; clear hbl
              have HWL := Lib.hid hwl; clear hwl
              have CL := Lib.hid cL; clear cL
              have CT := Lib.hid cT; clear cT
              have G2 := Lib.hid g2; clear g2
              have G3 := Lib.hid g3; clear g3
              have G4 := Lib.hid g4; clear g4
              cases ob with
              | false =>
                rw [Bool.false_and, Bool.false_and, Bool.false_and] at hok
                have hE : validE p = 175 := by rw [HE2.out, if_pos]; rw [hs, hok]; rfl
                have HS := Lib.hid hs; clear hs
                have HOK := Lib.hid hok; clear hok
                have HE := Lib.hid hE; clear hE
                go_wp2_with fail
                refine wp_region_later [(⟨w.heap.size, 0, none⟩, .int .i64 p.n), (⟨wr.heap.size, 0, none⟩, .int .i64 lev), (⟨wr.heap.size, 1, none⟩, .slice bA bl bc), (⟨wr.heap.size, 2, none⟩, .slice wA wl wc), (⟨w.heap.size, 4, none⟩, .slice (some ⟨b, off, none⟩) ml mc)] (by kernel_rfl) (by kernel_rfl) (by simp [go_sem, *]) ?_
                intro hk; simp only [List.forall_mem_cons] at hk; obtain ⟨k17_0, k17_1, k17_2, k17_3, k17_4, kz⟩ := hk; clear kz
                repeat go_big_quiet_step ((first | (go_at_call 42; exact Calls.later (CL.out _ (bel_trans (bel_alloc _ _) (Later.h _)))) | (go_at_call 43; exact Calls.later_same (CT.out _ (bel_trans (bel_alloc _ _) (Later.h _))))))
                refine wpQuiet_nil ?_
                rintro w2 ⟨u17, rfl⟩
                have HU17 := Lib.hid u17.h
                clear k17_0 k17_1 k17_2 k17_3 k17_4
                have hbz := bel_trans (bel_alloc _ _) HU17.out
                have HB5 := Lib.hid (bel_trans HB4.out hbz)
                have HBZ := Lib.hid hbz; clear hbz
                go_wp2_with fail
                go_ret
                exact ⟨ret_int HE.out.symm, HB5.out⟩
              | true =>
              by_cases hwb : wl = bl
              case neg =>
                have e3 : ((wl : Int) != (bl : Int)) = true := by simp; omega
                rw [decide_eq_false hwb, Bool.and_false, Bool.true_and, Bool.false_and, Bool.false_and] at hok
                have HWB := Lib.hid hwb; clear hwb
                have HT := Lib.hid hT; clear hT
                have hE : validE p = 175 := by rw [HE2.out, if_pos]; rw [hs, hok]; rfl
                have HS := Lib.hid hs; clear hs
                have HOK := Lib.hid hok; clear hok
                have HE := Lib.hid hE; clear hE
                go_wp2_with fail
                refine wp_region_later [(⟨w.heap.size, 0, none⟩, .int .i64 p.n), (⟨wr.heap.size, 0, none⟩, .int .i64 lev), (⟨wr.heap.size, 1, none⟩, .slice bA bl bc), (⟨wr.heap.size, 2, none⟩, .slice wA wl wc), (⟨w.heap.size, 4, none⟩, .slice (some ⟨b, off, none⟩) ml mc)] (by kernel_rfl) (by kernel_rfl) (by simp [go_sem, *]) ?_
                intro hk; simp only [List.forall_mem_cons] at hk; obtain ⟨k17_0, k17_1, k17_2, k17_3, k17_4, kz⟩ := hk; clear kz
                repeat go_big_quiet_step ((first | (go_at_call 42; exact Calls.later (CL.out _ (bel_trans (bel_alloc _ _) (Later.h _)))) | (go_at_call 43; exact Calls.later_same (CT.out _ (bel_trans (bel_alloc _ _) (Later.h _))))))
                refine wpQuiet_nil ?_
                rintro w2 ⟨u17, rfl⟩
                have HU17 := Lib.hid u17.h
                clear k17_0 k17_1 k17_2 k17_3 k17_4
                have hbz := bel_trans (bel_alloc _ _) HU17.out
                have HB5 := Lib.hid (bel_trans HB4.out hbz)
                have HBZ := Lib.hid hbz; clear hbz
                go_wp2_with fail
                go_ret
                exact ⟨ret_int HE.out.symm, HB5.out⟩
              have e3 : ((wl : Int) != (bl : Int)) = false := by simp; omega
              rw [decide_eq_true hwb, Bool.and_true, Bool.true_and] at hok
              have HWB := Lib.hid hwb; clear hwb
              by_cases htq : tq < 0
              · have q1 : decide (tq < 0) = true := decide_eq_true htq
                rw [q1] at hT
                have htb : tb = false := by simpa using hT.symm
                rw [htb, Bool.false_and, Bool.false_and] at hok
                have HT := Lib.hid hT; clear hT
                have HTB := Lib.hid htb; clear htb
                have hE : validE p = 175 := by rw [HE2.out, if_pos]; rw [hs, hok]; rfl
                have HS := Lib.hid hs; clear hs
                have HOK := Lib.hid hok; clear hok
                have HE := Lib.hid hE; clear hE
                go_wp2_with fail
                refine wp_region_later [(⟨w.heap.size, 0, none⟩, .int .i64 p.n), (⟨wr.heap.size, 0, none⟩, .int .i64 lev), (⟨wr.heap.size, 1, none⟩, .slice bA bl bc), (⟨wr.heap.size, 2, none⟩, .slice wA wl wc), (⟨w.heap.size, 4, none⟩, .slice (some ⟨b, off, none⟩) ml mc)] (by kernel_rfl) (by kernel_rfl) (by simp [go_sem, *]) ?_
                intro hk; simp only [List.forall_mem_cons] at hk; obtain ⟨k17_0, k17_1, k17_2, k17_3, k17_4, kz⟩ := hk; clear kz
                repeat go_big_quiet_step ((first | (go_at_call 42; exact Calls.later (CL.out _ (bel_trans (bel_alloc _ _) (Later.h _)))) | (go_at_call 43; exact Calls.later_same (CT.out _ (bel_trans (bel_alloc _ _) (Later.h _))))))
                refine wpQuiet_nil ?_
                rintro w2 ⟨u17, rfl⟩
                have HU17 := Lib.hid u17.h
                clear k17_0 k17_1 k17_2 k17_3 k17_4
                have hbz := bel_trans (bel_alloc _ _) HU17.out
                have HB5 := Lib.hid (bel_trans HB4.out hbz)
                have HBZ := Lib.hid hbz; clear hbz
                go_wp2_with fail
                go_ret
                exact ⟨ret_int HE.out.symm, HB5.out⟩
              have q1 : decide (tq < 0) = false := decide_eq_false htq
              rw [q1] at hT
              have htb : tb = true := by simpa using hT.symm
              rw [htb, Bool.true_and] at hok
              have HT := Lib.hid hT; clear hT
              have HTB := Lib.hid htb; clear htb
              by_cases hl1 : lev < -2147483647
              · have q2 : decide (lev < -2147483647) = true := decide_eq_true hl1
                rw [decide_eq_false (show ¬ -2147483647 ≤ lev by omega), Bool.false_and] at hok
                have hE : validE p = 175 := by rw [HE2.out, if_pos]; rw [hs, hok]; rfl
                have HS := Lib.hid hs; clear hs
                have HOK := Lib.hid hok; clear hok
                have HE := Lib.hid hE; clear hE
                go_wp2_with fail
                refine wp_region_later [(⟨w.heap.size, 0, none⟩, .int .i64 p.n), (⟨wr.heap.size, 0, none⟩, .int .i64 lev), (⟨wr.heap.size, 1, none⟩, .slice bA bl bc), (⟨wr.heap.size, 2, none⟩, .slice wA wl wc), (⟨w.heap.size, 4, none⟩, .slice (some ⟨b, off, none⟩) ml mc)] (by kernel_rfl) (by kernel_rfl) (by simp [go_sem, *]) ?_
                intro hk; simp only [List.forall_mem_cons] at hk; obtain ⟨k17_0, k17_1, k17_2, k17_3, k17_4, kz⟩ := hk; clear kz
                repeat go_big_quiet_step ((first | (go_at_call 42; exact Calls.later (CL.out _ (bel_trans (bel_alloc _ _) (Later.h _)))) | (go_at_call 43; exact Calls.later_same (CT.out _ (bel_trans (bel_alloc _ _) (Later.h _))))))
                refine wpQuiet_nil ?_
                rintro w2 ⟨u17, rfl⟩
                have HU17 := Lib.hid u17.h
                clear k17_0 k17_1 k17_2 k17_3 k17_4
                have hbz := bel_trans (bel_alloc _ _) HU17.out
                have HB5 := Lib.hid (bel_trans HB4.out hbz)
                have HBZ := Lib.hid hbz; clear hbz
                go_wp2_with fail
                go_ret
                exact ⟨ret_int HE.out.symm, HB5.out⟩
              have q2 : decide (lev < -2147483647) = false := decide_eq_false hl1
              rw [decide_eq_true (show -2147483647 ≤ lev by omega), Bool.true_and] at hok
              by_cases hl2 : 2147483647 < lev
              · have q3 : decide (2147483647 < lev) = true := decide_eq_true hl2
                rw [decide_eq_false (show ¬ lev ≤ 2147483647 by omega)] at hok
                have hE : validE p = 175 := by rw [HE2.out, if_pos]; rw [hs, hok]; rfl
                have HS := Lib.hid hs; clear hs
                have HOK := Lib.hid hok; clear hok
                have HE := Lib.hid hE; clear hE
                go_wp2_with fail
                refine wp_region_later [(⟨w.heap.size, 0, none⟩, .int .i64 p.n), (⟨wr.heap.size, 0, none⟩, .int .i64 lev), (⟨wr.heap.size, 1, none⟩, .slice bA bl bc), (⟨wr.heap.size, 2, none⟩, .slice wA wl wc), (⟨w.heap.size, 4, none⟩, .slice (some ⟨b, off, none⟩) ml mc)] (by kernel_rfl) (by kernel_rfl) (by simp [go_sem, *]) ?_
                intro hk; simp only [List.forall_mem_cons] at hk; obtain ⟨k17_0, k17_1, k17_2, k17_3, k17_4, kz⟩ := hk; clear kz
                repeat go_big_quiet_step ((first | (go_at_call 42; exact Calls.later (CL.out _ (bel_trans (bel_alloc _ _) (Later.h _)))) | (go_at_call 43; exact Calls.later_same (CT.out _ (bel_trans (bel_alloc _ _) (Later.h _))))))
                refine wpQuiet_nil ?_
                rintro w2 ⟨u17, rfl⟩
                have HU17 := Lib.hid u17.h
                clear k17_0 k17_1 k17_2 k17_3 k17_4
                have hbz := bel_trans (bel_alloc _ _) HU17.out
                have HB5 := Lib.hid (bel_trans HB4.out hbz)
                have HBZ := Lib.hid hbz; clear hbz
                go_wp2_with fail
                go_ret
                exact ⟨ret_int HE.out.symm, HB5.out⟩
              have q3 : decide (2147483647 < lev) = false := decide_eq_false hl2
              rw [decide_eq_true (show lev ≤ 2147483647 by omega)] at hok
              rcases Nat.eq_zero_or_pos j with hj0 | hj0
              · have q4 : decide (0 < (j : Int)) = false := decide_eq_false (by omega)
                have q5 : decide (0 < j) = false := decide_eq_false (by omega)
                have hs2 : minGoE p.n none p.min = minGoE p.n (prevAt p.min (j + 1)) (p.min.drop (j + 1)) := by
                  rw [hs, hok, prevAt_succ, HX.out, hj0]; rfl
                have HS := Lib.hid hs; clear hs
                have HOK := Lib.hid hok; clear hok
                have HS2 := Lib.hid hs2; clear hs2
                have HJ0 := Lib.hid hj0; clear hj0
                go_wp2_with fail
                refine wp_region_later [(⟨w.heap.size, 0, none⟩, .int .i64 p.n), (⟨wr.heap.size, 0, none⟩, .int .i64 lev), (⟨wr.heap.size, 1, none⟩, .slice bA bl bc), (⟨wr.heap.size, 2, none⟩, .slice wA wl wc), (⟨w.heap.size, 4, none⟩, .slice (some ⟨b, off, none⟩) ml mc)] (by kernel_rfl) (by kernel_rfl) (by simp [go_sem, *]) ?_
                intro hk; simp only [List.forall_mem_cons] at hk; obtain ⟨k17_0, k17_1, k17_2, k17_3, k17_4, kz⟩ := hk; clear kz
                repeat go_big_quiet_step ((first | (go_at_call 42; exact Calls.later (CL.out _ (bel_trans (bel_alloc _ _) (Later.h _)))) | (go_at_call 43; exact Calls.later_same (CT.out _ (bel_trans (bel_alloc _ _) (Later.h _))))))
                refine wpQuiet_nil ?_
                rintro w2 ⟨u17, rfl⟩
                have HU17 := Lib.hid u17.h
                clear k17_0 k17_1 k17_2 k17_3 k17_4
                have hbz := bel_trans (bel_alloc _ _) HU17.out
                have HB5 := Lib.hid (bel_trans HB4.out hbz)
                have hbw5 := bel_trans HBW.out hbz
                have HBZ := Lib.hid hbz; clear hbz
                have HBW5 := Lib.hid hbw5; clear hbw5
                go_wp2_with fail
                go_roundw
                case rel => exact ⟨j + 1, by omega, by go_num, HBW5.out, HS2.out⟩
                case measure => simp [intOf]; omega
              · obtain ⟨i, rfl⟩ : ∃ i, j = i + 1 := ⟨j - 1, by omega⟩
                have q4 : decide (0 < (i : Int) + 1) = true := decide_eq_true (by omega)
                have q5 : decide (0 < i + 1) = true := decide_eq_true (by omega)
                have q6 : IntKind.i64.wrap ((i : Int) + 1 - 1) = i := by rw [IntWalk.i64_in _ (by omega)]; omega
                obtain ⟨pl, hpx, _⟩ := HPM.out.drop (k := i) (by omega)
                obtain ⟨b', off', _, _, _, _, _, _, he, _, pc0, _, _, _, _, _⟩ := (HPM.out.ext HB4.out).min hpx
                cases he
                have hs3 : minGoE p.n none p.min = (decide (lev < pl.level) && minGoE p.n (some m) (p.min.drop (i + 1 + 1))) := by rw [hs, hok, prevAt_succ, hpx]; rfl
                have hs4 : prevAt p.min (i + 1 + 1) = some m := by rw [prevAt_succ, HX.out]
                generalize pl.level = plev at *
                clear hs
                have HOK := Lib.hid hok; clear hok
                have HPX := Lib.hid hpx; clear hpx
                by_cases hlv : plev ≤ lev
                · have q7 : decide (plev ≤ lev) = true := decide_eq_true hlv
                  rw [decide_eq_false (show ¬ lev < plev by omega), Bool.false_and] at hs3
                  have hE : validE p = 175 := by rw [HE2.out, if_pos hs3]
                  have HS3 := Lib.hid hs3; clear hs3
                  have HS4 := Lib.hid hs4; clear hs4
                  have HE := Lib.hid hE; clear hE
                  go_wp2_with fail
                  refine wp_region_later [(⟨w.heap.size, 0, none⟩, .int .i64 p.n), (⟨wr.heap.size, 0, none⟩, .int .i64 lev), (⟨wr.heap.size, 1, none⟩, .slice bA bl bc), (⟨wr.heap.size, 2, none⟩, .slice wA wl wc), (⟨w.heap.size, 4, none⟩, .slice (some ⟨b, off, none⟩) ml mc), (⟨b, off + i * 3, none⟩, .int .i64 plev)] (by kernel_rfl) (by kernel_rfl) (by simp [go_sem, *]) ?_
                  intro hk; simp only [List.forall_mem_cons] at hk; obtain ⟨k17_0, k17_1, k17_2, k17_3, k17_4, k17_5, kz⟩ := hk; clear kz
                  repeat go_big_quiet_step ((first | (go_at_call 42; exact Calls.later (CL.out _ (bel_trans (bel_alloc _ _) (Later.h _)))) | (go_at_call 43; exact Calls.later_same (CT.out _ (bel_trans (bel_alloc _ _) (Later.h _))))))
                  refine wpQuiet_nil ?_
                  rintro w2 ⟨u17, rfl⟩
                  have HU17 := Lib.hid u17.h
                  clear k17_0 k17_1 k17_2 k17_3 k17_4 k17_5
                  have hbz := bel_trans (bel_alloc _ _) HU17.out
                  have HB5 := Lib.hid (bel_trans HB4.out hbz)
                  have HBZ := Lib.hid hbz; clear hbz
                  go_wp2_with fail
                  go_ret
                  exact ⟨ret_int HE.out.symm, HB5.out⟩
                · have q7 : decide (plev ≤ lev) = false := decide_eq_false hlv
                  rw [decide_eq_true (show lev < plev by omega), Bool.true_and, ← hs4] at hs3
                  have HS3 := Lib.hid hs3; clear hs3
                  have HS4 := Lib.hid hs4; clear hs4
                  go_wp2_with fail
                  refine wp_region_later [(⟨w.heap.size, 0, none⟩, .int .i64 p.n), (⟨wr.heap.size, 0, none⟩, .int .i64 lev), (⟨wr.heap.size, 1, none⟩, .slice bA bl bc), (⟨wr.heap.size, 2, none⟩, .slice wA wl wc), (⟨w.heap.size, 4, none⟩, .slice (some ⟨b, off, none⟩) ml mc), (⟨b, off + i * 3, none⟩, .int .i64 plev)] (by kernel_rfl) (by kernel_rfl) (by simp [go_sem, *]) ?_
                  intro hk; simp only [List.forall_mem_cons] at hk; obtain ⟨k17_0, k17_1, k17_2, k17_3, k17_4, k17_5, kz⟩ := hk; clear kz
                  repeat go_big_quiet_step ((first | (go_at_call 42; exact Calls.later (CL.out _ (bel_trans (bel_alloc _ _) (Later.h _)))) | (go_at_call 43; exact Calls.later_same (CT.out _ (bel_trans (bel_alloc _ _) (Later.h _))))))
                  refine wpQuiet_nil ?_
                  rintro w2 ⟨u17, rfl⟩
                  have HU17 := Lib.hid u17.h
                  clear k17_0 k17_1 k17_2 k17_3 k17_4 k17_5
                  have hbz := bel_trans (bel_alloc _ _) HU17.out
                  have HB5 := Lib.hid (bel_trans HB4.out hbz)
                  have hbw5 := bel_trans HBW.out hbz
                  have HBZ := Lib.hid hbz; clear hbz
                  have HBW5 := Lib.hid hbw5; clear hbw5
                  go_wp2_with fail
                  go_roundw
                  case rel => exact ⟨i + 1 + 1, by omega, by go_num, HBW5.out, HS3.out⟩
                  case measure => simp [intOf]; omega
            · have hE3 : validE p = 0 := by rw [HE2.out, hs, HPM.out.stop (show ml ≤ j by omega)]; rfl
              have HE3 := Lib.hid hE3; clear hE3
              have HS := Lib.hid hs; clear hs
              go_wp2_with fail
              go_ret
              exact ⟨ret_int HE3.out.symm, HB4.out⟩
end Go.Proofs.Ytbfbkpoakmnlpaa

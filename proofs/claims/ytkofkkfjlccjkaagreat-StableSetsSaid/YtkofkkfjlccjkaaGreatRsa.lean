/- Contracts of the reference: Satisfied, Sat. -/
import Derived.Test.YtkofkkfjlccjkaaGreatG2
import Derived.Test.YtkofkkfjlccjkaaGreatG5
namespace Go.Proofs.YtkofkkfjlccjkaaGreat
open Go.RowKit

set_option maxRecDepth 100000 in
set_option maxHeartbeats 2000000 in
theorem refSatisfied_any (r : GRule) (hA : Option Addr) (hl hc : Nat) (bA : Option Addr) (bl bc : Nat) (wA : Option Addr) (wl wc : Nat) (mA : Option Addr) (ml mc : Nat) (ms : List Int) (w : World) (hr : RuleIn w r hA hl hc bA bl bc wA wl wc) (hm : SlIs intR w mA ml mc ms) (ok : BodyOk r) :
    Calls Tryz.prog 92 #[.agg #[.bool r.choice, .slice hA hl hc, .bool r.sum, .int .i64 r.bound, .slice bA bl bc, .slice wA wl wc], .slice mA ml mc] w fun e w' => e = .returned (.bool (satB r ms)) ∧ Below w.heap.size w w' := by
  have hsat : satB r ms = (r.choice || !bodyB r ms || r.head.any (fun a => decide (a ∈ ms))) := rfl
  have cB := fun W (hb : Below w.heap.size w W) => refBody_any r hA hl hc bA bl bc wA wl wc mA ml mc ms W (hr.ext hb) (hm.ext hb) ok
  have cI := fun W x (hb : Below w.heap.size w W) => refIn_any mA ml mc ms x W (hm.ext hb)
  have hhc := hr.head.cap
  have hhm := hr.head.max
  generalize bodyB r ms = q at *
  cases hch : r.choice with
  | true =>
    rw [hch] at hsat
    clear cB
    have HR := Lib.hid hr; clear hr
    have HM := Lib.hid hm; clear hm
    have HSAT := Lib.hid hsat; clear hsat
    have HCH := Lib.hid hch; clear hch
    have CI := Lib.hid cI; clear cI
    have OK := Lib.hid ok; clear ok
    go_enter Tryz.func92, Tryz.ntmps92
    go_wp2_with fail
    go_ret
    exact ⟨ret_bool (by rw [HSAT.out]; rfl), bel_alloc _ _⟩
  | false =>
    rw [hch] at hsat cB
    cases q with
    | false =>
      have HR := Lib.hid hr; clear hr
      have HM := Lib.hid hm; clear hm
      have HSAT := Lib.hid hsat; clear hsat
      have HCH := Lib.hid hch; clear hch
      have CB := Lib.hid cB; clear cB
      have CI := Lib.hid cI; clear cI
      have OK := Lib.hid ok; clear ok
      go_enter Tryz.func92, Tryz.ntmps92
      go_wp2_with fail
      go_fit (CB.out _ (bel_alloc _ _)); rintro e w1 ⟨rfl, hb1⟩
      have HB1 := Lib.hid (bel_trans (bel_alloc _ _) hb1)
      clear hb1
      go_wp2_with fail
      go_ret
      exact ⟨ret_bool (by rw [HSAT.out]; rfl), HB1.out⟩
    | true =>
      rw [Bool.not_true, Bool.or_false, Bool.false_or] at hsat
      have HR := Lib.hid hr; clear hr
      have HM := Lib.hid hm; clear hm
      have HSAT := Lib.hid hsat; clear hsat
      have HCH := Lib.hid hch; clear hch
      have CB := Lib.hid cB; clear cB
      have CI := Lib.hid cI; clear cI
      have OK := Lib.hid ok; clear ok
      go_enter Tryz.func92, Tryz.ntmps92
      go_wp2_with fail
      go_fit (CB.out _ (bel_alloc _ _)); rintro e w1 ⟨rfl, hb1⟩
      have hbk := (Blk.new w 51 #[.bool false, .slice hA hl hc, .bool r.sum, .int .i64 r.bound, .slice bA bl bc, .slice wA wl wc]).bel hb1
      have s1 := hbk.cell 1
      have HB1 := Lib.hid (bel_trans (bel_alloc _ _) hb1)
      clear hb1 hbk
      simp only [List.getElem?_toArray, List.getElem?_cons_succ, List.getElem?_cons_zero] at s1
      have HH := Lib.hid (HR.out.head.ext HB1.out)
      go_wp2_with fail
      go_loop [5] (fun i => ∃ k : Nat, k ≤ hl ∧ i = .int .i64 k ∧ r.head.any (fun a => decide (a ∈ ms)) = (r.head.drop k).any (fun a => decide (a ∈ ms))) (fun i => hl - (intOf i).toNat)
      case atStart => exact ⟨0, Nat.zero_le _, rfl, rfl⟩
      case round =>
        obtain ⟨k, hk, rfl, hs⟩ := hrel
        have HS := Lib.hid hs; clear hs
        by_cases hlt : k < hl
        · obtain ⟨x, hx, hd⟩ := HH.out.drop hlt
          obtain ⟨b, off, rfl, hbz, hcell, hx64⟩ := HH.out.int hx
          have HX := Lib.hid hx; clear hx
          have HD := Lib.hid hd; clear hd
          by_cases ht : x ∈ ms
          · have hd1 : decide (x ∈ ms) = true := decide_eq_true ht
            have c := CI.out w1 x HB1.out
            rw [hd1] at c
            have C := Lib.hid c; clear c
            have HD1 := Lib.hid hd1; clear hd1
            have HT := Lib.hid ht; clear ht
            go_wp2_with fail
            go_fit C.out; rintro e w' ⟨rfl, rfl⟩
            go_wp2_with fail
            go_ret
            exact ⟨ret_bool (by rw [HSAT.out, HS.out, HD.out, List.any_cons, HD1.out]; rfl), HB1.out⟩
          · have hd1 : decide (x ∈ ms) = false := decide_eq_false ht
            have c := CI.out w1 x HB1.out
            rw [hd1] at c
            have C := Lib.hid c; clear c
            have HD1 := Lib.hid hd1; clear hd1
            have HT := Lib.hid ht; clear ht
            go_wp2_with fail
            go_fit C.out; rintro e w' ⟨rfl, rfl⟩
            go_wp2_with fail
            go_round
            case rel => exact ⟨k + 1, by omega, by go_num, by rw [HS.out, HD.out, List.any_cons, HD1.out]; rfl⟩
            case measure => simp [intOf]; omega
        · go_wp2
          go_ret
          exact ⟨ret_bool (by rw [HSAT.out, HS.out, HH.out.stop (by omega)]; rfl), HB1.out⟩

set_option maxRecDepth 100000 in
set_option maxHeartbeats 2000000 in
theorem refSat_any (rA : Option Addr) (rl rc : Nat) (rs : List GRule) (mA : Option Addr) (ml mc : Nat) (ms : List Int) (w : World) (h : SlIs ruleR w rA rl rc rs) (hm : SlIs intR w mA ml mc ms) (ok : ∀ r ∈ rs, BodyOk r) :
    Calls Tryz.prog 55 #[.slice rA rl rc, .slice mA ml mc] w fun e w' => e = .returned (.bool (satL rs ms)) ∧ Below w.heap.size w w' := by
  have hrc := h.cap
  have hrm := h.max
  have hfin : satL rs ms = rs.all (fun r => satB r ms) := rfl
  have H := Lib.hid h; clear h
  have HM := Lib.hid hm; clear hm
  have HFIN := Lib.hid hfin; clear hfin
  have OK := Lib.hid ok; clear ok
  go_enter Tryz.func55, Tryz.ntmps55
  go_wp2
  go_loopw [5] (fun i wr => ∃ k : Nat, k ≤ rl ∧ i = .int .i64 k ∧ Below w.heap.size w wr ∧ rs.all (fun r => satB r ms) = (rs.drop k).all (fun r => satB r ms)) (fun i _ => rl - (intOf i).toNat)
  case atStart => exact ⟨0, Nat.zero_le _, rfl, Below.refl _ _, rfl⟩
  case round =>
    obtain ⟨k, hk, rfl, hbw, hs⟩ := hrel
    have H1 := Lib.hid (H.out.ext hbw)
    have HM1 := Lib.hid (HM.out.ext hbw)
    have HBW := Lib.hid hbw
    clear hbw
    have HS := Lib.hid hs; clear hs
    by_cases hlt : k < rl
    · obtain ⟨r, hx, hd⟩ := H1.out.drop hlt
      obtain ⟨b, off, hA, hl, hc, bA, bl, bc, wA, wl, wc, rfl, _, f0, f1, f2, f3, f4, f5, g1, g2, g3, g4⟩ := H1.out.rule hx
      have HR := Lib.hid (show RuleIn wr r hA hl hc bA bl bc wA wl wc from ⟨g1, g2, g3, g4⟩)
      have hok := OK.out r (List.mem_of_getElem? hx)
      clear g1 g2 g3 g4
      have c := fun W hb => refSatisfied_any r hA hl hc bA bl bc wA wl wc mA ml mc ms W (HR.out.ext hb) (HM1.out.ext hb) hok
      have hst := allD (fun r => satB r ms) r (rs.drop (k + 1))
      generalize hq : satB r ms = q at *
      have HX := Lib.hid hx; clear hx
      have HD := Lib.hid hd; clear hd
      have HST := Lib.hid hst; clear hst
      have C := Lib.hid c; clear c
      have HOK := Lib.hid hok; clear hok
      have HQ := Lib.hid hq; clear hq
      cases q with
      | true =>
        go_wp2_with fail
        go_fit (C.out _ (Below.refl _ _)); rintro e w2 ⟨rfl, hb2⟩
        have HB2 := Lib.hid (bel_trans HBW.out hb2)
        clear hb2
        go_wp2_with fail
        go_roundw
        case rel => exact ⟨k + 1, by omega, by go_num, HB2.out, by rw [HS.out, HD.out, HST.out]; rfl⟩
        case measure => simp [intOf]; omega
      | false =>
        go_wp2_with fail
        go_fit (C.out _ (Below.refl _ _)); rintro e w2 ⟨rfl, hb2⟩
        have HB2 := Lib.hid (bel_trans HBW.out hb2)
        clear hb2
        go_wp2_with fail
        go_ret
        exact ⟨ret_bool (by rw [HFIN.out, HS.out, HD.out, HST.out]; rfl), HB2.out⟩
    · go_wp2
      go_ret
      exact ⟨ret_bool (by rw [HFIN.out, HS.out, H1.out.stop (by omega)]; rfl), HBW.out⟩
end Go.Proofs.YtkofkkfjlccjkaaGreat

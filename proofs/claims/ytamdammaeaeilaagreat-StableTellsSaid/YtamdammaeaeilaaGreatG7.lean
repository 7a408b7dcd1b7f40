/- Several texts in one: Rsa, Occ, Rfm, Rfl, Rfb. -/
import Derived.Test.YtamdammaeaeilaaGreatG2
import Derived.Test.YtamdammaeaeilaaGreatG5
import Derived.Test.YtamdammaeaeilaaGreatSw4
/- Contracts of the reference: Satisfied, Sat. -/
namespace Go.Proofs.YtamdammaeaeilaaGreat
open Go.RowKit

set_option maxRecDepth 100000 in
set_option maxHeartbeats 2000000 in
theorem refSatisfied_any (r : GRule) (hA : Option Addr) (hl hc : Nat) (bA : Option Addr) (bl bc : Nat) (wA : Option Addr) (wl wc : Nat) (mA : Option Addr) (ml mc : Nat) (ms : List Int) (w : World) (hr : RuleIn w r hA hl hc bA bl bc wA wl wc) (hm : SlIs intR w mA ml mc ms) (ok : BodyOk r) :
    Calls Tryz.prog 113 #[.agg #[.bool r.choice, .slice hA hl hc, .bool r.sum, .int .i64 r.bound, .slice bA bl bc, .slice wA wl wc], .slice mA ml mc] w fun e w' => e = .returned (.bool (satB r ms)) ∧ Below w.heap.size w w' := by
  have hsat : satB r ms = (r.choice || !bodyB r ms || r.head.any (fun a => decide (a ∈ ms))) := rfl
  have cB := fun W (hb : Below w.heap.size w W) => refBody_any r hA hl hc bA bl bc wA wl wc mA ml mc ms W (hr.ext hb) (hm.ext hb) ok
  have cI := fun W x (hb : Below w.heap.size w W) => refIn_any mA ml mc ms x W (hm.ext hb)
  have hhc := hr.head.cap
  have hhm := hr.head.max
  generalize bodyB r ms = q at *
  cases hch : r.choice with
  | true =>
    rw [hch] at hsat
    clear cB
    have HR := Lib.hid hr; clear hr
    have HM := Lib.hid hm; clear hm
    have HSAT := Lib.hid hsat; clear hsat
    have HCH := Lib.hid hch; clear hch
    have CI := Lib.hid cI; clear cI
    have OK := Lib.hid ok; clear ok
    go_enter Tryz.func113, Tryz.ntmps113
    go_wp2_with fail
    go_ret
    exact ⟨ret_bool (by rw [HSAT.out]; rfl), bel_alloc _ _⟩
  | false =>
    rw [hch] at hsat cB
    cases q with
    | false =>
      have HR := Lib.hid hr; clear hr
      have HM := Lib.hid hm; clear hm
      have HSAT := Lib.hid hsat; clear hsat
      have HCH := Lib.hid hch; clear hch
      have CB := Lib.hid cB; clear cB
      have CI := Lib.hid cI; clear cI
      have OK := Lib.hid ok; clear ok
      go_enter Tryz.func113, Tryz.ntmps113
      go_wp2_with fail
      go_fit (CB.out _ (bel_alloc _ _)); rintro e w1 ⟨rfl, hb1⟩
      have HB1 := Lib.hid (bel_trans (bel_alloc _ _) hb1)
      clear hb1
      go_wp2_with fail
      go_ret
      exact ⟨ret_bool (by rw [HSAT.out]; rfl), HB1.out⟩
    | true =>
      rw [Bool.not_true, Bool.or_false, Bool.false_or] at hsat
      have HR := Lib.hid hr; clear hr
      have HM := Lib.hid hm; clear hm
      have HSAT := Lib.hid hsat; clear hsat
      have HCH := Lib.hid hch; clear hch
      have CB := Lib.hid cB; clear cB
      have CI := Lib.hid cI; clear cI
      have OK := Lib.hid ok; clear ok
      go_enter Tryz.func113, Tryz.ntmps113
      go_wp2_with fail
      go_fit (CB.out _ (bel_alloc _ _)); rintro e w1 ⟨rfl, hb1⟩
      have hbk := (Blk.new w 55 #[.bool false, .slice hA hl hc, .bool r.sum, .int .i64 r.bound, .slice bA bl bc, .slice wA wl wc]).bel hb1
      have s1 := hbk.cell 1
      have HB1 := Lib.hid (bel_trans (bel_alloc _ _) hb1)
      clear hb1 hbk
      simp only [List.getElem?_toArray, List.getElem?_cons_succ, List.getElem?_cons_zero] at s1
      have HH := Lib.hid (HR.out.head.ext HB1.out)
      go_wp2_with fail
      go_loop [5] (fun i => ∃ k : Nat, k ≤ hl ∧ i = .int .i64 k ∧ r.head.any (fun a => decide (a ∈ ms)) = (r.head.drop k).any (fun a => decide (a ∈ ms))) (fun i => hl - (intOf i).toNat)
      case atStart => exact ⟨0, Nat.zero_le _, rfl, rfl⟩
      case round =>
        obtain ⟨k, hk, rfl, hs⟩ := hrel
        have HS := Lib.hid hs; clear hs
        by_cases hlt : k < hl
        · obtain ⟨x, hx, hd⟩ := HH.out.drop hlt
          obtain ⟨b, off, rfl, hbz, hcell, hx64⟩ := HH.out.int hx
          have HX := Lib.hid hx; clear hx
          have HD := Lib.hid hd; clear hd
          by_cases ht : x ∈ ms
          · have hd1 : decide (x ∈ ms) = true := decide_eq_true ht
            have c := CI.out w1 x HB1.out
            rw [hd1] at c
            have C := Lib.hid c; clear c
            have HD1 := Lib.hid hd1; clear hd1
            have HT := Lib.hid ht; clear ht
            go_wp2_with fail
            go_fit C.out; rintro e w' ⟨rfl, rfl⟩
            go_wp2_with fail
            go_ret
            exact ⟨ret_bool (by rw [HSAT.out, HS.out, HD.out, List.any_cons, HD1.out]; rfl), HB1.out⟩
          · have hd1 : decide (x ∈ ms) = false := decide_eq_false ht
            have c := CI.out w1 x HB1.out
            rw [hd1] at c
            have C := Lib.hid c; clear c
            have HD1 := Lib.hid hd1; clear hd1
            have HT := Lib.hid ht; clear ht
            go_wp2_with fail
            go_fit C.out; rintro e w' ⟨rfl, rfl⟩
            go_wp2_with fail
            go_round
            case rel => exact ⟨k + 1, by omega, by go_num, by rw [HS.out, HD.out, List.any_cons, HD1.out]; rfl⟩
            case measure => simp [intOf]; omega
        · go_wp2
          go_ret
          exact ⟨ret_bool (by rw [HSAT.out, HS.out, HH.out.stop (by omega)]; rfl), HB1.out⟩

set_option maxRecDepth 100000 in
set_option maxHeartbeats 2000000 in
theorem refSat_any (rA : Option Addr) (rl rc : Nat) (rs : List GRule) (mA : Option Addr) (ml mc : Nat) (ms : List Int) (w : World) (h : SlIs ruleR w rA rl rc rs) (hm : SlIs intR w mA ml mc ms) (ok : ∀ r ∈ rs, BodyOk r) :
    Calls Tryz.prog 61 #[.slice rA rl rc, .slice mA ml mc] w fun e w' => e = .returned (.bool (satL rs ms)) ∧ Below w.heap.size w w' := by
  have hrc := h.cap
  have hrm := h.max
  have hfin : satL rs ms = rs.all (fun r => satB r ms) := rfl
  have H := Lib.hid h; clear h
  have HM := Lib.hid hm; clear hm
  have HFIN := Lib.hid hfin; clear hfin
  have OK := Lib.hid ok; clear ok
  go_enter Tryz.func61, Tryz.ntmps61
  go_wp2
  go_loopw [5] (fun i wr => ∃ k : Nat, k ≤ rl ∧ i = .int .i64 k ∧ Below w.heap.size w wr ∧ rs.all (fun r => satB r ms) = (rs.drop k).all (fun r => satB r ms)) (fun i _ => rl - (intOf i).toNat)
  case atStart => exact ⟨0, Nat.zero_le _, rfl, Below.refl _ _, rfl⟩
  case round =>
    obtain ⟨k, hk, rfl, hbw, hs⟩ := hrel
    have H1 := Lib.hid (H.out.ext hbw)
    have HM1 := Lib.hid (HM.out.ext hbw)
    have HBW := Lib.hid hbw
    clear hbw
    have HS := Lib.hid hs; clear hs
    by_cases hlt : k < rl
    · obtain ⟨r, hx, hd⟩ := H1.out.drop hlt
      obtain ⟨b, off, hA, hl, hc, bA, bl, bc, wA, wl, wc, rfl, _, f0, f1, f2, f3, f4, f5, g1, g2, g3, g4⟩ := H1.out.rule hx
      have HR := Lib.hid (show RuleIn wr r hA hl hc bA bl bc wA wl wc from ⟨g1, g2, g3, g4⟩)
      have hok := OK.out r (List.mem_of_getElem? hx)
      clear g1 g2 g3 g4
      have c := fun W hb => refSatisfied_any r hA hl hc bA bl bc wA wl wc mA ml mc ms W (HR.out.ext hb) (HM1.out.ext hb) hok
      have hst := allD (fun r => satB r ms) r (rs.drop (k + 1))
      generalize hq : satB r ms = q at *
      have HX := Lib.hid hx; clear hx
      have HD := Lib.hid hd; clear hd
      have HST := Lib.hid hst; clear hst
      have C := Lib.hid c; clear c
      have HOK := Lib.hid hok; clear hok
      have HQ := Lib.hid hq; clear hq
      cases q with
      | true =>
        go_wp2_with fail
        go_fit (C.out _ (Below.refl _ _)); rintro e w2 ⟨rfl, hb2⟩
        have HB2 := Lib.hid (bel_trans HBW.out hb2)
        clear hb2
        go_wp2_with fail
        go_roundw
        case rel => exact ⟨k + 1, by omega, by go_num, HB2.out, by rw [HS.out, HD.out, HST.out]; rfl⟩
        case measure => simp [intOf]; omega
      | false =>
        go_wp2_with fail
        go_fit (C.out _ (Below.refl _ _)); rintro e w2 ⟨rfl, hb2⟩
        have HB2 := Lib.hid (bel_trans HBW.out hb2)
        clear hb2
        go_wp2_with fail
        go_ret
        exact ⟨ret_bool (by rw [HFIN.out, HS.out, HD.out, HST.out]; rfl), HB2.out⟩
    · go_wp2
      go_ret
      exact ⟨ret_bool (by rw [HFIN.out, HS.out, H1.out.stop (by omega)]; rfl), HBW.out⟩
end Go.Proofs.YtamdammaeaeilaaGreat
/- Plain: the numbers that occur in so many elements of a list of sets, increasing; the reference's minimal sets. -/
namespace Go.Proofs.YtamdammaeaeilaaGreat

/-- In how many elements of l a number occurs. -/
def timesN (l : List (List Int)) (x : Int) : Nat := (l.filter (fun m => decide (x ∈ m))).length
/-- A number put before the first greater one. -/
def insI (x : Int) : List Int → List Int
  | [] => [x]
  | y :: r => if x < y then x :: y :: r else y :: insI x r
def occS (l : List (List Int)) (least : Int) (out : List Int) (x : Int) : List Int := if (timesN l x : Int) < least ∨ x ∈ out then out else insI x out
def occL (l : List (List Int)) (least : Int) : List Int := l.flatten.foldl (occS l least) []
theorem insI_mem (x : Int) : ∀ (out : List Int) (y : Int), y ∈ insI x out ↔ y = x ∨ y ∈ out
  | [], y => by simp [insI]
  | z :: r, y => by
    unfold insI
    split
    · simp
    · rw [List.mem_cons, insI_mem x r y, List.mem_cons]
      constructor
      · rintro (h | h | h)
        · exact .inr (.inl h)
        · exact .inl h
        · exact .inr (.inr h)
      · rintro (h | h | h)
        · exact .inr (.inl h)
        · exact .inl h
        · exact .inr (.inr h)
theorem insI_sorted (x : Int) : ∀ (out : List Int), out.Pairwise (· < ·) → x ∉ out → (insI x out).Pairwise (· < ·)
  | [], _, _ => by simp [insI]
  | y :: r, h, hx => by
    rw [List.pairwise_cons] at h
    unfold insI
    split
    · rename_i hlt
      rw [List.pairwise_cons]
      refine ⟨fun z hz => ?_, List.pairwise_cons.2 h⟩
      rcases List.mem_cons.1 hz with rfl | hz
      · exact hlt
      · have := h.1 z hz; omega
    · rename_i hge
      rw [List.pairwise_cons]
      refine ⟨fun z hz => ?_, insI_sorted x r h.2 (fun hm => hx (by simp [hm]))⟩
      rcases (insI_mem x r z).1 hz with rfl | hz
      · have : z ≠ y := fun e => hx (by simp [e])
        omega
      · exact h.1 z hz
theorem occ_fold (l : List (List Int)) (least : Int) : ∀ (xs out : List Int), out.Pairwise (· < ·) →
    (xs.foldl (occS l least) out).Pairwise (· < ·) ∧ ∀ y, y ∈ xs.foldl (occS l least) out ↔ y ∈ out ∨ (y ∈ xs ∧ least ≤ (timesN l y : Int))
  | [], out, h => ⟨h, fun y => by simp⟩
  | x :: xs, out, h => by
    rw [List.foldl_cons]
    by_cases hc : (timesN l x : Int) < least ∨ x ∈ out
    · have e : occS l least out x = out := if_pos hc
      rw [e]
      obtain ⟨h1, h2⟩ := occ_fold l least xs out h
      refine ⟨h1, fun y => ?_⟩
      rw [h2 y]
      constructor
      · rintro (h3 | ⟨h3, h4⟩)
        · exact .inl h3
        · exact .inr ⟨by simp [h3], h4⟩
      · rintro (h3 | ⟨h3, h4⟩)
        · exact .inl h3
        · rcases List.mem_cons.1 h3 with rfl | h3
          · rcases hc with hc | hc
            · omega
            · exact .inl hc
          · exact .inr ⟨h3, h4⟩
    · have e : occS l least out x = insI x out := if_neg hc
      rw [e]
      have hno : x ∉ out := fun hm => hc (.inr hm)
      have hle : least ≤ (timesN l x : Int) := by
        rcases Int.lt_or_le (timesN l x : Int) least with h3 | h3
        · exact absurd (.inl h3) hc
        · exact h3
      obtain ⟨h1, h2⟩ := occ_fold l least xs (insI x out) (insI_sorted x out h hno)
      refine ⟨h1, fun y => ?_⟩
      rw [h2 y, insI_mem x out y]
      constructor
      · rintro ((rfl | h3) | ⟨h3, h4⟩)
        · exact .inr ⟨by simp, hle⟩
        · exact .inl h3
        · exact .inr ⟨by simp [h3], h4⟩
      · rintro (h3 | ⟨h3, h4⟩)
        · exact .inl (.inr h3)
        · rcases List.mem_cons.1 h3 with rfl | h3
          · exact .inl (.inl rfl)
          · exact .inr ⟨h3, h4⟩
theorem occL_sorted (l : List (List Int)) (least : Int) : (occL l least).Pairwise (· < ·) := (occ_fold l least l.flatten [] List.Pairwise.nil).1
theorem occL_mem (l : List (List Int)) (least : Int) (y : Int) : y ∈ occL l least ↔ (∃ m ∈ l, y ∈ m) ∧ least ≤ (timesN l y : Int) := by
  unfold occL
  rw [(occ_fold l least l.flatten [] List.Pairwise.nil).2 y, List.mem_flatten]
  simp
theorem timesN_pos {l : List (List Int)} {y : Int} : 0 < timesN l y ↔ ∃ m ∈ l, y ∈ m := by
  unfold timesN
  rw [List.length_pos_iff_exists_mem]
  constructor
  · rintro ⟨m, hm⟩
    have := List.mem_filter.1 hm
    exact ⟨m, this.1, by simpa using this.2⟩
  · rintro ⟨m, h1, h2⟩
    exact ⟨m, List.mem_filter.2 ⟨h1, by simpa using h2⟩⟩
/-- A list without repetition that holds what occurs often enough, sorted, is that list. -/
theorem occ_of {l : List (List Int)} {least : Int} {ys : List Int} (hs : ys.Pairwise (· < ·)) (hm : ∀ y, y ∈ ys ↔ (0 < timesN l y ∧ least ≤ (timesN l y : Int))) : ys = occL l least :=
  inc_ext hs (occL_sorted l least) fun y => by rw [hm y, occL_mem, timesN_pos]
/-- The reference's minimal sets. -/
def refMinB (rs : List GRule) (m : List Int) : Bool := satL rs m && (List.range (2 ^ m.length - 1)).all (fun b => !satL rs (pickL m b))
theorem refMin_is (rs : List GRule) (m : List Int) (_ : m.Pairwise (· < ·)) : refMinB rs m = minL rs m := by
  have h := minL_iff rs m
  rw [Bool.eq_iff_iff, h]
  unfold refMinB
  rw [Bool.and_eq_true, List.all_eq_true]
  constructor
  · rintro ⟨h1, h2⟩
    refine ⟨h1, fun s hs hsat => ?_⟩
    obtain ⟨b, hb, rfl⟩ := sub_pick hs
    rcases Nat.lt_or_ge b (2 ^ m.length - 1) with h3 | h3
    · have := h2 b (List.mem_range.2 h3)
      rw [hsat] at this; cases this
    · have : b = 2 ^ m.length - 1 := by omega
      rw [this, pickL_all]
  · rintro ⟨h1, h2⟩
    refine ⟨h1, fun b hb => ?_⟩
    have hb := List.mem_range.1 hb
    cases hs : satL rs (pickL m b) with
    | false => rfl
    | true =>
      exfalso
      have e := h2 _ (pickL_sub m b) hs
      have := pickL_len m b (by omega) (by rw [e])
      omega
end Go.Proofs.YtamdammaeaeilaaGreat
/- Contracts of the reference: Subset, power, Minimal. -/
namespace Go.Proofs.YtamdammaeaeilaaGreat
open Go.RowKit

theorem pickL_cons (a : Int) (t : List Int) (b : Nat) : pickL (a :: t) b = if b % 2 = 1 then a :: pickL t (b / 2) else pickL t (b / 2) := rfl
set_option maxRecDepth 100000 in
set_option maxHeartbeats 2000000 in
theorem refSubset_any (mA : Option Addr) (ml mc : Nat) (ms : List Int) (b : Nat) (w : World) (hm : SlIs intR w mA ml mc ms) (hb : b ≤ 4096) :
    Calls Tryz.prog 58 #[.slice mA ml mc, .int .i64 (b : Int)] w fun e w' => ∃ A l c, e = .returned (.slice A l c) ∧ SlIs intR w' A l c (pickL ms b) ∧ Below w.heap.size w w' := by
  have hmc := hm.cap
  have hmx := hm.max
  have hsm := hm.small
  have HM := Lib.hid hm; clear hm
  go_enter Tryz.func58, Tryz.ntmps58
  go_wp2_with fail
  go_loopw [1, 5, 6] (fun q v t wr => ∃ (k lv z : Nat) (ys : List Int), k ≤ ml ∧ t = .int .i64 (k : Int) ∧ q = .int .i64 (z : Int) ∧ z ≤ 4096 ∧ OwnI wr w.heap.size v lv ys ∧ lv ≤ k ∧ (∀ y ∈ ys, I64 y) ∧ Below w.heap.size w wr ∧ pickL ms b = ys ++ pickL (ms.drop k) z) (fun _ _ t _ => ml - (intOf t).toNat)
  case atStart => exact ⟨0, 0, b, [], Nat.zero_le _, rfl, rfl, hb, OwnI.nil _ _, Nat.le_refl _, by simp, Below.refl _ _, rfl⟩
  case round =>
    obtain ⟨k, lv, z, ys, hk, rfl, rfl, hz, ho, hlv, hys, hbw, hs⟩ := hrel
    have hsz := hbw.size
    by_cases hlt : k < ml
    · obtain ⟨x, hx, hd⟩ := HM.out.drop hlt
      obtain ⟨b1, o1, rfl, _, cx, hx64⟩ := (HM.out.ext hbw).int hx
      have k0 : (0 : Int) ≤ (k : Int) := by omega
      have k1 : (k : Int) < (ml : Int) := by omega
      have hzi : (0 : Int) ≤ (z : Int) := by omega
      have hzd : ((z / 2 : Nat) : Int) = (z : Int) / 2 := by omega
      rw [hd, pickL_cons] at hs
      by_cases h1 : z % 2 = 1
      · have e1 : ((z : Int) % 2 == 1) = true := by simp; omega
        rw [if_pos h1] at hs
        have hs' : pickL ms b = (ys ++ [x]) ++ pickL (ms.drop (k + 1)) (z / 2) := by rw [hs]; simp
        obtain ⟨v1, w3, hrun, own1, hg1, hat1⟩ := app1 ho x (by omega) hsz 23
        have hb3 := bel_grown hbw hg1 hsz (fun z hz => (ho.2.lt z hz).1)
        have HO := Lib.hid ho; clear ho
        have HBW := Lib.hid hbw; clear hbw
        have HYS := Lib.hid hys; clear hys
        have HX := Lib.hid hx; clear hx
        have HD := Lib.hid hd; clear hd
        have HS := Lib.hid hs; clear hs
        have HS' := Lib.hid hs'; clear hs'
        have HRUN := Lib.hid hrun; clear hrun
        have OWN1 := Lib.hid own1; clear own1
        have HG1 := Lib.hid hg1; clear hg1
        have HAT1 := Lib.hid hat1; clear hat1
        have HB3 := Lib.hid hb3; clear hb3
        have H1 := Lib.hid h1; clear h1
        have HX64 := Lib.hid hx64; clear hx64
        go_wp2_with (at_builtin; refine wpList_append_run rfl _ _ _ rfl _ _ rfl rfl _ _ HRUN.out ?_)
        go_roundw
        case rel => exact ⟨k + 1, _, z / 2, _, by omega, by go_num, by rw [hzd], by omega, OWN1.out, by omega, fun y h => by
          rcases List.mem_append.1 h with h | h
          · exact HYS.out y h
          · simp at h; subst h; exact HX64.out, HB3.out, HS'.out⟩
        case measure => simp [intOf]; omega
      · have e1 : ((z : Int) % 2 == 1) = false := by simp; omega
        rw [if_neg h1] at hs
        have HO := Lib.hid ho; clear ho
        have HBW := Lib.hid hbw; clear hbw
        have HYS := Lib.hid hys; clear hys
        have HX := Lib.hid hx; clear hx
        have HD := Lib.hid hd; clear hd
        have HS := Lib.hid hs; clear hs
        have H1 := Lib.hid h1; clear h1
        have HX64 := Lib.hid hx64; clear hx64
        go_wp2_with fail
        go_roundw
        case rel => exact ⟨k + 1, _, z / 2, _, by omega, by go_num, by rw [hzd], by omega, HO.out, by omega, HYS.out, HBW.out, HS.out⟩
        case measure => simp [intOf]; omega
    · rw [HM.out.stop (show ml ≤ k by omega)] at hs
      obtain ⟨vA, vc, hv, hsv⟩ := ho.sl (by omega) hys
      rw [show pickL [] z = [] from rfl, List.append_nil] at hs
      rw [← hs] at hsv
      subst hv
      have HO := Lib.hid ho; clear ho
      have HBW := Lib.hid hbw; clear hbw
      have HYS := Lib.hid hys; clear hys
      have HS := Lib.hid hs; clear hs
      have HSV := Lib.hid hsv; clear hsv
      go_wp2_with fail
      go_ret
      exact ⟨_, _, _, rfl, HSV.out, HBW.out⟩

set_option maxRecDepth 100000 in
set_option maxHeartbeats 1000000 in
theorem refPower_any (k N : Nat) (w : World) (hk : k ≤ 12) (hN : N = 2 ^ k) :
    Calls Tryz.prog 57 #[.int .i64 (k : Int)] w fun e w' => e = .returned (.int .i64 (N : Int)) ∧ w = w' := by
  have hpow : ∀ i : Nat, i ≤ 12 → 2 ^ i ≤ 4096 := fun i hi => Nat.le_trans (Nat.pow_le_pow_right (by omega) hi) (show 2 ^ 12 ≤ 4096 by decide)
  have HPOW := Lib.hid hpow; clear hpow
  have HN := Lib.hid hN; clear hN
  go_enter Tryz.func57, Tryz.ntmps57
  go_wp2_with fail
  go_loop [3, 4] (fun n t => ∃ (i z : Nat), i ≤ k ∧ t = .int .i64 (i : Int) ∧ n = .int .i64 (z : Int) ∧ z = 2 ^ i) (fun _ t => k - (intOf t).toNat)
  case atStart => exact ⟨0, 1, Nat.zero_le _, rfl, rfl, rfl⟩
  case round =>
    obtain ⟨i, z, hi, rfl, rfl, hz⟩ := hrel
    have hz2 := HPOW.out i (by omega)
    rw [← hz] at hz2
    by_cases hlt : i < k
    · have hz3 : 2 * z = 2 ^ (i + 1) := by rw [hz, Nat.pow_succ]; omega
      have HZ := Lib.hid hz; clear hz
      have HZ3 := Lib.hid hz3; clear hz3
      go_wp2_with fail
      go_round
      case rel => exact ⟨i + 1, 2 * z, by omega, by go_num, by go_num, HZ3.out⟩
      case measure => simp [intOf]; omega
    · have hik : i = k := by omega
      subst hik
      have HZ := Lib.hid hz; clear hz
      go_wp2_with fail
      go_ret
      exact ⟨ret_int (by rw [HZ.out, HN.out]), rfl⟩

theorem range_all_step (n k : Nat) (f : Nat → Bool) (h : k < n) : ((List.range n).drop k).all f = (f k && ((List.range n).drop (k + 1)).all f) := by
  rw [List.drop_eq_getElem_cons (by simpa using h), List.all_cons, List.getElem_range]
set_option maxRecDepth 100000 in
set_option maxHeartbeats 2000000 in
theorem refMinimal_any (rA : Option Addr) (rl rc : Nat) (rs : List GRule) (mA : Option Addr) (ml mc : Nat) (ms : List Int) (w : World) (h : SlIs ruleR w rA rl rc rs) (hm : SlIs intR w mA ml mc ms) (ok : ∀ r ∈ rs, BodyOk r) (h12 : ml ≤ 12) :
    Calls Tryz.prog 62 #[.slice rA rl rc, .slice mA ml mc] w fun e w' => e = .returned (.bool (refMinB rs ms)) ∧ Below w.heap.size w w' := by
  have hrc := h.cap
  have hrm := h.max
  have hmc := hm.cap
  have hmx := hm.max
  have hml := hm.len
  obtain ⟨N, hN⟩ : ∃ N : Nat, N = 2 ^ ml := ⟨_, rfl⟩
  have hN1 : N ≤ 4096 := by rw [hN]; exact Nat.le_trans (Nat.pow_le_pow_right (by omega) h12) (show 2 ^ 12 ≤ 4096 by decide)
  have hN0 : 0 < N := by rw [hN]; exact Nat.pos_of_ne_zero (by simp)
  have hfin : refMinB rs ms = (satL rs ms && (List.range (N - 1)).all (fun b => !satL rs (pickL ms b))) := by unfold refMinB; rw [hN, hml]
  have cS := fun W (hb : Below w.heap.size w W) => refSat_any rA rl rc rs mA ml mc ms W (h.ext hb) (hm.ext hb) ok
  have cS2 := fun W A l c xs (hb : Below w.heap.size w W) (hx : SlIs intR W A l c xs) => refSat_any rA rl rc rs A l c xs W (h.ext hb) hx ok
  have cP := fun W => refPower_any ml N W h12 hN
  have cU := fun W b (hb : Below w.heap.size w W) hbb => refSubset_any mA ml mc ms b W (hm.ext hb) hbb
  generalize hq0 : satL rs ms = q0 at *
  cases q0 with
  | false =>
    have H := Lib.hid h; clear h
    have HM := Lib.hid hm; clear hm
    have HFIN := Lib.hid hfin; clear hfin
    have OK := Lib.hid ok; clear ok
    have CS := Lib.hid cS; clear cS
    have CS2 := Lib.hid cS2; clear cS2
    have CP := Lib.hid cP; clear cP
    have CU := Lib.hid cU; clear cU
    have HN := Lib.hid hN; clear hN
    have HML := Lib.hid hml; clear hml
    have HQ0 := Lib.hid hq0; clear hq0
    go_enter Tryz.func62, Tryz.ntmps62
    go_wp2_with fail
    go_fit (CS.out _ (Below.refl _ _)); rintro e w1 ⟨rfl, hb1⟩
    have HB1 := Lib.hid hb1
    clear hb1
    go_wp2_with fail
    go_ret
    exact ⟨ret_bool (by rw [HFIN.out]; rfl), HB1.out⟩
  | true =>
    have H := Lib.hid h; clear h
    have HM := Lib.hid hm; clear hm
    have HFIN := Lib.hid hfin; clear hfin
    have OK := Lib.hid ok; clear ok
    have CS := Lib.hid cS; clear cS
    have CS2 := Lib.hid cS2; clear cS2
    have CP := Lib.hid cP; clear cP
    have CU := Lib.hid cU; clear cU
    have HN := Lib.hid hN; clear hN
    have HML := Lib.hid hml; clear hml
    have HQ0 := Lib.hid hq0; clear hq0
    go_enter Tryz.func62, Tryz.ntmps62
    go_wp2_with fail
    go_fit (CS.out _ (Below.refl _ _)); rintro e w1 ⟨rfl, hb1⟩
    have HB1 := Lib.hid hb1
    clear hb1
    go_wp2_with fail
    go_loopw [5] (fun i wr => ∃ k : Nat, k ≤ N - 1 ∧ i = .int .i64 (k : Int) ∧ Below w.heap.size w wr ∧ refMinB rs ms = ((List.range (N - 1)).drop k).all (fun b => !satL rs (pickL ms b))) (fun i _ => N - (intOf i).toNat)
    case atStart => exact ⟨0, Nat.zero_le _, rfl, HB1.out, by rw [HFIN.out]; rfl⟩
    case round =>
      obtain ⟨k, hk, rfl, hbw, hs⟩ := hrel
      have HBW := Lib.hid hbw
      clear hbw
      by_cases hlt : k < N - 1
      · have hst := range_all_step (N - 1) k (fun b => !satL rs (pickL ms b)) hlt
        generalize hq : satL rs (pickL ms k) = q at *
        have HS := Lib.hid hs; clear hs
        have HST := Lib.hid hst; clear hst
        have HQ := Lib.hid hq; clear hq
        go_wp2_with fail
        go_fit (CP.out _); rintro e w' ⟨rfl, rfl⟩
        go_wp2_with fail
        go_fit (CU.out _ k HBW.out (by omega)); rintro e w2 ⟨sA, sl, sc, rfl, hsub, hb2⟩
        have HB2 := Lib.hid (bel_trans HBW.out hb2)
        have hc := CS2.out _ _ _ _ _ HB2.out hsub
        rw [HQ.out] at hc
        clear hb2
        have HSUB := Lib.hid hsub; clear hsub
        have HC := Lib.hid hc; clear hc
        go_wp2_with fail
        go_fit HC.out; rintro e w3 ⟨rfl, hb3⟩
        have HB3 := Lib.hid (bel_trans HB2.out hb3)
        clear hb3
        cases q with
        | true =>
          go_wp2_with fail
          go_ret
          exact ⟨ret_bool (by rw [HS.out, HST.out]; rfl), HB3.out⟩
        | false =>
          go_wp2_with fail
          go_roundw
          case rel => exact ⟨k + 1, by omega, by go_num, HB3.out, by rw [HS.out, HST.out]; rfl⟩
          case measure => simp [intOf]; omega
      · rw [List.drop_eq_nil_of_le (by simp; omega)] at hs
        have HS := Lib.hid hs; clear hs
        go_wp2_with fail
        go_fit (CP.out _); rintro e w' ⟨rfl, rfl⟩
        go_wp2_with fail
        go_ret
        exact ⟨ret_bool (by rw [HS.out]; rfl), HBW.out⟩
end Go.Proofs.YtamdammaeaeilaaGreat
/- Contracts of the reference: less. -/
namespace Go.Proofs.YtamdammaeaeilaaGreat
open Go.RowKit

theorem lexLt_cons (x y : Int) (r t : List Int) : lexLt (x :: r) (y :: t) = if x = y then lexLt r t else decide (x < y) := rfl
theorem lexLt_nil (xs : List Int) : lexLt xs [] = false := by cases xs <;> rfl
theorem lexLt_nil' (y : Int) (t : List Int) : lexLt [] (y :: t) = true := rfl
set_option maxRecDepth 100000 in
set_option maxHeartbeats 2000000 in
theorem refLess_any (aA : Option Addr) (al ac : Nat) (bA : Option Addr) (bl bc : Nat) (xs ys : List Int) (w : World) (ha : SlIs intR w aA al ac xs) (hb : SlIs intR w bA bl bc ys) :
    Calls Tryz.prog 59 #[.slice aA al ac, .slice bA bl bc] w fun e w' => e = .returned (.bool (lexLt xs ys)) ∧ Below w.heap.size w w' := by
  have hl := ha.cap
  have hm := ha.max
  have hl2 := hb.cap
  have hm2 := hb.max
  have hsm := ha.small
  have HA := Lib.hid ha; clear ha
  have HB := Lib.hid hb; clear hb
  go_enter Tryz.func59, Tryz.ntmps59
  go_wp2_with fail
  go_loopw [5] (fun t wr => ∃ (k : Nat), k ≤ al ∧ k ≤ bl ∧ t = .int .i64 (k : Int) ∧ Below w.heap.size w wr ∧ lexLt xs ys = lexLt (xs.drop k) (ys.drop k)) (fun t _ => al - (intOf t).toNat)
  case atStart => exact ⟨0, Nat.zero_le _, Nat.zero_le _, rfl, Below.refl _ _, rfl⟩
  case round =>
    obtain ⟨k, hk, hk2, rfl, hbw, hs⟩ := hrel
    by_cases hlt : k < al
    · by_cases hlt2 : k < bl
      · obtain ⟨x, hx, hd⟩ := HA.out.drop hlt
        obtain ⟨y, hy, hdy⟩ := HB.out.drop hlt2
        obtain ⟨b1, o1, rfl, _, cx, _⟩ := (HA.out.ext hbw).int hx
        obtain ⟨b2, o2, rfl, _, cy, _⟩ := (HB.out.ext hbw).int hy
        have k0 : (0 : Int) ≤ (k : Int) := by omega
        have k1 : (k : Int) < (al : Int) := by omega
        have k2 : (k : Int) < (bl : Int) := by omega
        rw [hd, hdy, lexLt_cons] at hs
        by_cases h1 : x = y
        · have e1 : (x != y) = false := by simp [h1]
          rw [if_pos h1] at hs
          have HX := Lib.hid hx; clear hx
          have HD := Lib.hid hd; clear hd
          have HY := Lib.hid hy; clear hy
          have HDY := Lib.hid hdy; clear hdy
          have HS := Lib.hid hs; clear hs
          have H1 := Lib.hid h1; clear h1
          go_wp2_with fail
          refine wp_region_later [(⟨b1, o1 + k, none⟩, .int .i64 x), (⟨b2, o2 + k, none⟩, .int .i64 y)] (by kernel_rfl) (by kernel_rfl) (by simp [go_sem, *]) ?_
          intro hk; simp only [List.forall_mem_cons] at hk; obtain ⟨k1_0, k1_1, kz⟩ := hk; clear kz
          repeat go_big_quiet_step (fail)
          refine wpQuiet_nil ?_
          rintro w2 ⟨u1, rfl⟩
          have HU1 := Lib.hid u1.h
          clear k1_0 k1_1
          have hbu := bel_trans hbw HU1.out
          have HBW := Lib.hid hbw; clear hbw
          have HBU := Lib.hid hbu; clear hbu
          go_wp2_with fail
          go_roundw
          case rel => exact ⟨k + 1, by omega, by omega, by go_num, HBU.out, HS.out⟩
          case measure => simp [intOf]; omega
        · have e1 : (x != y) = true := by simp [h1]
          rw [if_neg h1] at hs
          have HX := Lib.hid hx; clear hx
          have HD := Lib.hid hd; clear hd
          have HY := Lib.hid hy; clear hy
          have HDY := Lib.hid hdy; clear hdy
          have H1 := Lib.hid h1; clear h1
          go_wp2_with fail
          refine wp_region_later [(⟨b1, o1 + k, none⟩, .int .i64 x), (⟨b2, o2 + k, none⟩, .int .i64 y)] (by kernel_rfl) (by kernel_rfl) (by simp [go_sem, *]) ?_
          intro hk; simp only [List.forall_mem_cons] at hk; obtain ⟨k1_0, k1_1, kz⟩ := hk; clear kz
          repeat go_big_quiet_step (fail)
          refine wpQuiet_nil ?_
          rintro w2 ⟨u1, rfl⟩
          have HU1 := Lib.hid u1.h
          clear k1_0 k1_1
          have hbu := bel_trans hbw HU1.out
          have cx2 := (HU1.out.cell (World.block_lt_of_cell? _ _ cx)).trans cx
          have cy2 := (HU1.out.cell (World.block_lt_of_cell? _ _ cy)).trans cy
          clear cx cy
          by_cases h2 : x < y
          · have e2 : decide (x < y) = true := decide_eq_true h2
            rw [e2] at hs
            have HS := Lib.hid hs; clear hs
            go_wp2_with fail
            refine wp_region_later [(⟨b1, o1 + k, none⟩, .int .i64 x), (⟨b2, o2 + k, none⟩, .int .i64 y)] (by kernel_rfl) (by kernel_rfl) (by simp [go_sem, *]) ?_
            intro hk; simp only [List.forall_mem_cons] at hk; obtain ⟨k2_0, k2_1, kz⟩ := hk; clear kz
            repeat go_big_quiet_step (fail)
            refine wpQuiet_nil ?_
            rintro w2 ⟨u2, rfl⟩
            have HU2 := Lib.hid u2.h
            clear k2_0 k2_1
            have hbv := bel_trans hbu HU2.out
            have HBW := Lib.hid hbw; clear hbw
            have HBU := Lib.hid hbu; clear hbu
            have HBV := Lib.hid hbv; clear hbv
            go_wp2_with fail
            go_ret
            exact ⟨ret_bool (by rw [HS.out]), HBV.out⟩
          · have e2 : decide (x < y) = false := decide_eq_false h2
            rw [e2] at hs
            have HS := Lib.hid hs; clear hs
            go_wp2_with fail
            refine wp_region_later [(⟨b1, o1 + k, none⟩, .int .i64 x), (⟨b2, o2 + k, none⟩, .int .i64 y)] (by kernel_rfl) (by kernel_rfl) (by simp [go_sem, *]) ?_
            intro hk; simp only [List.forall_mem_cons] at hk; obtain ⟨k2_0, k2_1, kz⟩ := hk; clear kz
            repeat go_big_quiet_step (fail)
            refine wpQuiet_nil ?_
            rintro w2 ⟨u2, rfl⟩
            have HU2 := Lib.hid u2.h
            clear k2_0 k2_1
            have hbv := bel_trans hbu HU2.out
            have HBW := Lib.hid hbw; clear hbw
            have HBU := Lib.hid hbu; clear hbu
            have HBV := Lib.hid hbv; clear hbv
            go_wp2_with fail
            go_ret
            exact ⟨ret_bool (by rw [HS.out]), HBV.out⟩
      · have e2 : decide (al < bl) = false := decide_eq_false (by omega)
        rw [HB.out.stop (show bl ≤ k by omega), lexLt_nil] at hs
        have HS := Lib.hid hs; clear hs
        have HBW := Lib.hid hbw; clear hbw
        go_wp2_with fail
        go_ret
        exact ⟨ret_bool (by first | (rw [HS.out]; done) | (rw [HS.out]; exact decide_eq_false (by omega)) | (rw [HS.out]; exact decide_eq_true (by omega))), HBW.out⟩
    · rw [HA.out.stop (show al ≤ k by omega)] at hs
      by_cases h3 : al < bl
      · have e1 : decide ((al : Int) < (bl : Int)) = true := decide_eq_true (by omega)
        obtain ⟨y, hy, hdy⟩ := HB.out.drop (show k < bl by omega)
        rw [hdy, lexLt_nil'] at hs
        have HS := Lib.hid hs; clear hs
        have HBW := Lib.hid hbw; clear hbw
        have HY := Lib.hid hy; clear hy
        have HDY := Lib.hid hdy; clear hdy
        go_wp2_with fail
        go_ret
        exact ⟨ret_bool (by first | (rw [HS.out]; done) | (rw [HS.out]; exact decide_eq_false (by omega)) | (rw [HS.out]; exact decide_eq_true (by omega))), HBW.out⟩
      · have e2 : decide (al < bl) = false := decide_eq_false (by omega)
        rw [HB.out.stop (show bl ≤ k by omega), lexLt_nil] at hs
        have HS := Lib.hid hs; clear hs
        have HBW := Lib.hid hbw; clear hbw
        go_wp2_with fail
        go_ret
        exact ⟨ret_bool (by first | (rw [HS.out]; done) | (rw [HS.out]; exact decide_eq_false (by omega)) | (rw [HS.out]; exact decide_eq_true (by omega))), HBW.out⟩
end Go.Proofs.YtamdammaeaeilaaGreat
/- Contracts of the reference: Better, Set. -/
namespace Go.Proofs.YtamdammaeaeilaaGreat
open Go.RowKit

set_option maxRecDepth 100000 in
set_option maxHeartbeats 2000000 in
theorem refBetter_any (aA : Option Addr) (al ac : Nat) (bA : Option Addr) (bl bc : Nat) (xs ys : List Int) (w : World) (ha : SlIs intR w aA al ac xs) (hb : SlIs intR w bA bl bc ys) :
    Calls Tryz.prog 60 #[.slice aA al ac, .slice bA bl bc] w fun e w' => e = .returned (.bool (betB xs ys)) ∧ Below w.heap.size w w' := by
  have hl := ha.cap
  have hm := ha.max
  have hl2 := hb.cap
  have hm2 := hb.max
  have hsm := ha.small
  have HA := Lib.hid ha; clear ha
  have HB := Lib.hid hb; clear hb
  go_enter Tryz.func60, Tryz.ntmps60
  go_wp2_with fail
  go_loopw [5] (fun t wr => ∃ (k : Nat), k ≤ al ∧ k ≤ bl ∧ t = .int .i64 (k : Int) ∧ Below w.heap.size w wr ∧ betB xs ys = betB (xs.drop k) (ys.drop k)) (fun t _ => al - (intOf t).toNat)
  case atStart => exact ⟨0, Nat.zero_le _, Nat.zero_le _, rfl, Below.refl _ _, rfl⟩
  case round =>
    obtain ⟨k, hk, hk2, rfl, hbw, hs⟩ := hrel
    by_cases hlt : k < al
    · by_cases hlt2 : k < bl
      · obtain ⟨x, hx, hd⟩ := HA.out.drop hlt
        obtain ⟨y, hy, hdy⟩ := HB.out.drop hlt2
        obtain ⟨b1, o1, rfl, _, cx, _⟩ := (HA.out.ext hbw).int hx
        obtain ⟨b2, o2, rfl, _, cy, _⟩ := (HB.out.ext hbw).int hy
        have k0 : (0 : Int) ≤ (k : Int) := by omega
        have k1 : (k : Int) < (al : Int) := by omega
        have k2 : (k : Int) < (bl : Int) := by omega
        rw [hd, hdy, betB_cons] at hs
        by_cases h1 : x = y
        · have e1 : (x != y) = false := by simp [h1]
          rw [if_pos h1] at hs
          have HX := Lib.hid hx; clear hx
          have HD := Lib.hid hd; clear hd
          have HY := Lib.hid hy; clear hy
          have HDY := Lib.hid hdy; clear hdy
          have HS := Lib.hid hs; clear hs
          have H1 := Lib.hid h1; clear h1
          go_wp2_with fail
          refine wp_region_later [(⟨b1, o1 + k, none⟩, .int .i64 x), (⟨b2, o2 + k, none⟩, .int .i64 y)] (by kernel_rfl) (by kernel_rfl) (by simp [go_sem, *]) ?_
          intro hk; simp only [List.forall_mem_cons] at hk; obtain ⟨k1_0, k1_1, kz⟩ := hk; clear kz
          repeat go_big_quiet_step (fail)
          refine wpQuiet_nil ?_
          rintro w2 ⟨u1, rfl⟩
          have HU1 := Lib.hid u1.h
          clear k1_0 k1_1
          have hbu := bel_trans hbw HU1.out
          have HBW := Lib.hid hbw; clear hbw
          have HBU := Lib.hid hbu; clear hbu
          go_wp2_with fail
          go_roundw
          case rel => exact ⟨k + 1, by omega, by omega, by go_num, HBU.out, HS.out⟩
          case measure => simp [intOf]; omega
        · have e1 : (x != y) = true := by simp [h1]
          rw [if_neg h1] at hs
          have HX := Lib.hid hx; clear hx
          have HD := Lib.hid hd; clear hd
          have HY := Lib.hid hy; clear hy
          have HDY := Lib.hid hdy; clear hdy
          have H1 := Lib.hid h1; clear h1
          go_wp2_with fail
          refine wp_region_later [(⟨b1, o1 + k, none⟩, .int .i64 x), (⟨b2, o2 + k, none⟩, .int .i64 y)] (by kernel_rfl) (by kernel_rfl) (by simp [go_sem, *]) ?_
          intro hk; simp only [List.forall_mem_cons] at hk; obtain ⟨k1_0, k1_1, kz⟩ := hk; clear kz
          repeat go_big_quiet_step (fail)
          refine wpQuiet_nil ?_
          rintro w2 ⟨u1, rfl⟩
          have HU1 := Lib.hid u1.h
          clear k1_0 k1_1
          have hbu := bel_trans hbw HU1.out
          have cx2 := (HU1.out.cell (World.block_lt_of_cell? _ _ cx)).trans cx
          have cy2 := (HU1.out.cell (World.block_lt_of_cell? _ _ cy)).trans cy
          clear cx cy
          by_cases h2 : x < y
          · have e2 : decide (x < y) = true := decide_eq_true h2
            rw [e2] at hs
            have HS := Lib.hid hs; clear hs
            go_wp2_with fail
            refine wp_region_later [(⟨b1, o1 + k, none⟩, .int .i64 x), (⟨b2, o2 + k, none⟩, .int .i64 y)] (by kernel_rfl) (by kernel_rfl) (by simp [go_sem, *]) ?_
            intro hk; simp only [List.forall_mem_cons] at hk; obtain ⟨k2_0, k2_1, kz⟩ := hk; clear kz
            repeat go_big_quiet_step (fail)
            refine wpQuiet_nil ?_
            rintro w2 ⟨u2, rfl⟩
            have HU2 := Lib.hid u2.h
            clear k2_0 k2_1
            have hbv := bel_trans hbu HU2.out
            have HBW := Lib.hid hbw; clear hbw
            have HBU := Lib.hid hbu; clear hbu
            have HBV := Lib.hid hbv; clear hbv
            go_wp2_with fail
            go_ret
            exact ⟨ret_bool (by rw [HS.out]), HBV.out⟩
          · have e2 : decide (x < y) = false := decide_eq_false h2
            rw [e2] at hs
            have HS := Lib.hid hs; clear hs
            go_wp2_with fail
            refine wp_region_later [(⟨b1, o1 + k, none⟩, .int .i64 x), (⟨b2, o2 + k, none⟩, .int .i64 y)] (by kernel_rfl) (by kernel_rfl) (by simp [go_sem, *]) ?_
            intro hk; simp only [List.forall_mem_cons] at hk; obtain ⟨k2_0, k2_1, kz⟩ := hk; clear kz
            repeat go_big_quiet_step (fail)
            refine wpQuiet_nil ?_
            rintro w2 ⟨u2, rfl⟩
            have HU2 := Lib.hid u2.h
            clear k2_0 k2_1
            have hbv := bel_trans hbu HU2.out
            have HBW := Lib.hid hbw; clear hbw
            have HBU := Lib.hid hbu; clear hbu
            have HBV := Lib.hid hbv; clear hbv
            go_wp2_with fail
            go_ret
            exact ⟨ret_bool (by rw [HS.out]), HBV.out⟩
      · rw [HB.out.stop (show bl ≤ k by omega), betB_nil] at hs
        have HS := Lib.hid hs; clear hs
        have HBW := Lib.hid hbw; clear hbw
        go_wp2_with fail
        go_ret
        exact ⟨ret_bool (by rw [HS.out]), HBW.out⟩
    · rw [HA.out.stop (show al ≤ k by omega), betB_nil'] at hs
      have HS := Lib.hid hs; clear hs
      have HBW := Lib.hid hbw; clear hbw
      go_wp2_with fail
      go_ret
      exact ⟨ret_bool (by rw [HS.out]), HBW.out⟩
set_option maxRecDepth 100000 in
set_option maxHeartbeats 1000000 in
theorem refSet_any (lA : Option Addr) (ll lc : Nat) (xs : List Int) (n : Int) (w : World) (h : SlIs intR w lA ll lc xs) :
    Calls Tryz.prog 18 #[.slice lA ll lc, .int .i64 n] w fun e w' => e = .returned (.bool (incB n xs)) ∧ Below w.heap.size w w' := by
  have c := refAtoms_any lA ll lc xs n w h
  have C := Lib.hid c; clear c
  have H := Lib.hid h; clear h
  go_enter Tryz.func18, Tryz.ntmps18
  go_wp2_with fail
  go_fit C.out; rintro e w1 ⟨rfl, hb⟩
  have HB := Lib.hid hb; clear hb
  go_wp2_with fail
  go_ret
  exact ⟨rfl, HB.out⟩
end Go.Proofs.YtamdammaeaeilaaGreat

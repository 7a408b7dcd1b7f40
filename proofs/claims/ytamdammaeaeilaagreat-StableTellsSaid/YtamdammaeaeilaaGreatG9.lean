/- Several texts in one: Rcs, Alp, Ral. -/
import Derived.Test.YtamdammaeaeilaaGreatSw8
import Derived.Test.YtamdammaeaeilaaGreatSt6
import Derived.Test.YtamdammaeaeilaaGreatG7
import Derived.Test.YtamdammaeaeilaaGreatOgn
import Derived.Test.YtamdammaeaeilaaGreatSrw
/- Contract of the reference: Costs. -/
namespace Go.Proofs.YtamdammaeaeilaaGreat
open Go.RowKit

theorem map_snoc {α β : Type} (f : α → β) {l : List α} {k : Nat} {x : α} (h : l[k]? = some x) : (l.take (k + 1)).map f = (l.take k).map f ++ [f x] := by
  rw [List.take_add_one, h]; simp
set_option maxRecDepth 100000 in
set_option maxHeartbeats 4000000 in
theorem refCosts_any (p : GProg) (nA : Option Addr) (nl nc : Nat) (sA : Option Addr) (sl sc : Nat) (rA : Option Addr) (rl rc : Nat) (mA : Option Addr) (ml mc : Nat) (xA : Option Addr) (xl xc : Nat) (m : List Int) (w : World) (hp : ProgIn w p nA nl nc sA sl sc rA rl rc mA ml mc) (hm : SlIs intR w xA xl xc m) (hok : ∀ l ∈ p.min, LevOk l) :
    Calls Tryz.prog 22 #[.agg #[.int .i64 p.n, .slice nA nl nc, .slice sA sl sc, .slice rA rl rc, .slice mA ml mc], .slice xA xl xc] w fun e w' => ∃ A l c, e = .returned (.slice A l c) ∧ SlIs intR w' A l c (costL p m) ∧ Below w.heap.size w w' := by
  have hmc := hp.min.cap
  have hmm := hp.min.max
  have hms := hp.min.small
  have hb0 := bel_alloc w (.cells #[.int .i64 p.n, .slice nA nl nc, .slice sA sl sc, .slice rA rl rc, .slice mA ml mc] 27)
  have hx0 := Blk.new w 27 #[.int .i64 p.n, .slice nA nl nc, .slice sA sl sc, .slice rA rl rc, .slice mA ml mc]
  have hcl : costL p m = p.min.map (fun l => sumT l.lits l.w m) := rfl
  have hmin := hp.min
  obtain ⟨W0, hW0⟩ : ∃ W0, W0 = w.alloc (.cells #[.int .i64 p.n, .slice nA nl nc, .slice sA sl sc, .slice rA rl rc, .slice mA ml mc] 27) := ⟨_, rfl⟩
  have hws : W0.heap.size = w.heap.size + 1 := by rw [hW0]; simp
  rw [← hW0] at hb0 hx0
  have HM := Lib.hid hm; clear hm
  have HP := Lib.hid hp; clear hp
  have HOK := Lib.hid hok; clear hok
  have HB0 := Lib.hid hb0; clear hb0
  have HX0 := Lib.hid hx0; clear hx0
  have HCL := Lib.hid hcl; clear hcl
  have HMIN := Lib.hid hmin; clear hmin
  go_enter Tryz.func22, Tryz.ntmps22
  go_wp2_with fail
  rw [← hW0]
  clear hW0
  go_loopw [5, 6] (fun v t wr => ∃ (k : Nat), k ≤ ml ∧ t = .int .i64 (k : Int) ∧ OwnI wr (w.heap.size + 1) v k ((p.min.take k).map (fun l => sumT l.lits l.w m)) ∧ Below W0.heap.size W0 wr) (fun _ t _ => ml - (intOf t).toNat)
  case atStart => exact ⟨0, Nat.zero_le _, rfl, OwnI.nil _ _, Below.refl _ _⟩
  case round =>
    obtain ⟨k, hk, rfl, ho, hbw⟩ := hrel
    have hbx := HX0.out.bel hbw
    have x4 := hbx.cell 4
    have x5 := hbx.lt
    have hbw2 := bel_trans HB0.out hbw
    simp only [List.getElem?_toArray, List.getElem?_cons_succ, List.getElem?_cons_zero] at x4
    have hszw : w.heap.size + 1 ≤ wr.heap.size := by have := hbw.size; omega
    by_cases hlt : k < ml
    · obtain ⟨l, hx, hd⟩ := HMIN.out.drop hlt
      obtain ⟨b, off, bA, bl, bc, yA, yl, yc, rfl, hbz, f0, f1, f2, g2, g3, g4⟩ := (HMIN.out.ext hbw2).min hx
      have hlo := HOK.out l (List.mem_of_getElem? hx)
      have k0 : (0 : Int) ≤ (k : Int) := by omega
      have k1 : (k : Int) < (ml : Int) := by omega
      have b1 := g3.cap
      have b2 := g3.max
      have b3 := g4.cap
      have b4 := g4.max
      have hyl : yl = bl := by rw [g4.len, hlo.len, g3.len]
      subst hyl
      have hms2 := map_snoc (fun l => sumT l.lits l.w m) hx
      have hm2 := HM.out.ext hbw2
      have HX := Lib.hid hx; clear hx
      have HD := Lib.hid hd; clear hd
      have G2 := Lib.hid g2; clear g2
      have G3 := Lib.hid g3; clear g3
      have G4 := Lib.hid g4; clear g4
      have HLO := Lib.hid hlo; clear hlo
      have HO := Lib.hid ho; clear ho
      have HBW := Lib.hid hbw; clear hbw
      have HBW2 := Lib.hid hbw2; clear hbw2
      have HBX := Lib.hid hbx; clear hbx
      have HMS2 := Lib.hid hms2; clear hms2
      have HM2 := Lib.hid hm2; clear hm2
      go_wp2_with fail
      go_loop [7, 8] (fun s t => ∃ (j : Nat) (z : Int), j ≤ yl ∧ t = .int .i64 (j : Int) ∧ s = .int .i64 z ∧ 0 ≤ z ∧ z ≤ 1048576 ∧ sumT (l.lits.take j) (l.w.take j) m = z) (fun _ t => yl - (intOf t).toNat)
      case atStart => exact ⟨0, 0, Nat.zero_le _, rfl, rfl, by omega, by omega, by simp [sumT]⟩
      case round =>
        obtain ⟨j, z, hj, rfl, rfl, hz0, hz1, hz⟩ := hrel
        by_cases hlt2 : j < yl
        · obtain ⟨x, hj0, -⟩ := G3.out.drop hlt2
          obtain ⟨y, hj1, -⟩ := G4.out.drop hlt2
          obtain ⟨xb, xo, rfl, _, cx, _⟩ := G3.out.int hj0
          obtain ⟨yb, yo, rfl, _, cy, _⟩ := G4.out.int hj1
          have hxb := HLO.out.lit x (List.mem_of_getElem? hj0)
          have hst := sumT_step m hj0 hj1
          have ht1 := sumT_take_bd m HLO.out (j + 1)
          have cT := refTrue_any xA xl xc m x wr HM2.out (by omega) (by omega)
          have j0 : (0 : Int) ≤ (j : Int) := by omega
          have j1 : (j : Int) < (yl : Int) := by omega
          rw [hz] at hst
          cases htv : trueB x m with
          | true =>
            rw [htv] at cT hst
            simp only [if_true] at hst
            rw [hst] at ht1
            obtain ⟨t0, t1⟩ := ht1
            have HJ0 := Lib.hid hj0; clear hj0
            have HJ1 := Lib.hid hj1; clear hj1
            have HXB := Lib.hid hxb; clear hxb
            have HST := Lib.hid hst; clear hst
            have CT := Lib.hid cT; clear cT
            have HZ := Lib.hid hz; clear hz
            have HTV := Lib.hid htv; clear htv
            go_wp2_with fail
            go_fit CT.out; rintro e w' ⟨rfl, rfl⟩
            go_wp2_with fail
            go_round
            case rel => exact ⟨j + 1, z + y, by omega, by go_num, by go_num, t0, t1, HST.out⟩
            case measure => simp [intOf]; omega
          | false =>
            rw [htv] at cT hst
            rw [if_neg (by simp), Int.add_zero] at hst
            have HJ0 := Lib.hid hj0; clear hj0
            have HJ1 := Lib.hid hj1; clear hj1
            have HXB := Lib.hid hxb; clear hxb
            have HST := Lib.hid hst; clear hst
            have CT := Lib.hid cT; clear cT
            have HZ := Lib.hid hz; clear hz
            have HTV := Lib.hid htv; clear htv
            go_wp2_with fail
            go_fit CT.out; rintro e w' ⟨rfl, rfl⟩
            go_wp2_with fail
            go_round
            case rel => exact ⟨j + 1, z, by omega, by go_num, rfl, hz0, hz1, HST.out⟩
            case measure => simp [intOf]; omega
        · have hj1 : l.lits.take j = l.lits := List.take_of_length_le (by rw [← G3.out.len]; omega)
          have hj2 : l.w.take j = l.w := List.take_of_length_le (by rw [← G4.out.len]; omega)
          rw [hj1, hj2] at hz
          obtain ⟨v1, w3, hrun, own1, hg1, hat1⟩ := app1 HO.out z (by omega) hszw 23
          have hb3 := bel_grown HBW.out hg1 HBW.out.size (fun q hq => by have := (HO.out.2.lt q hq).1; omega)
          have HRUN := Lib.hid hrun; clear hrun
          have OWN1 := Lib.hid own1; clear own1
          have HG1 := Lib.hid hg1; clear hg1
          have HAT1 := Lib.hid hat1; clear hat1
          have HB3 := Lib.hid hb3; clear hb3
          have HZ := Lib.hid hz; clear hz
          go_wp2_with (at_builtin; refine wpList_append_run rfl _ _ _ rfl _ _ rfl rfl _ _ HRUN.out ?_)
          go_roundw
          case rel => exact ⟨k + 1, by omega, by go_num, by rw [HMS2.out]; simp only [HZ.out]; exact OWN1.out, HB3.out⟩
          case measure => simp [intOf]; omega
    · rw [List.take_of_length_le (by rw [← HMIN.out.len]; omega), ← HCL.out] at ho
      obtain ⟨vA, vc, hv, hsv⟩ := ho.sl (by omega) (fun y hy => by
        rw [HCL.out] at hy
        obtain ⟨l, hl, rfl⟩ := List.mem_map.1 hy
        have h1 := sumT_nonneg m l.lits l.w (HOK.out l hl).pos
        have h2 := sumT_sum m l.lits l.w (HOK.out l hl).pos
        have h3 := (HOK.out l hl).tot
        unfold I64; omega)
      subst hv
      have HO := Lib.hid ho; clear ho
      have HSV := Lib.hid hsv; clear hsv
      have HBW := Lib.hid hbw; clear hbw
      have HBW2 := Lib.hid hbw2; clear hbw2
      have HBX := Lib.hid hbx; clear hbx
      go_wp2_with fail
      go_ret
      exact ⟨_, _, _, rfl, HSV.out, HBW2.out⟩
end Go.Proofs.YtamdammaeaeilaaGreat
/- Plain: sets put in order one by one. -/
namespace Go.Proofs.YtamdammaeaeilaaGreat

def insS (m : List Int) : List (List Int) → List (List Int)
  | [] => [m]
  | y :: r => if lexLt m y then m :: y :: r else y :: insS m r
theorem insS_perm (m : List Int) : ∀ ys : List (List Int), (insS m ys).Perm (m :: ys)
  | [] => List.Perm.refl _
  | y :: r => by
    unfold insS
    split
    · exact List.Perm.refl _
    · exact ((insS_perm m r).cons y).trans (List.Perm.swap m y r)
theorem insS_len (m : List Int) (ys : List (List Int)) : (insS m ys).length = ys.length + 1 := by
  have := (insS_perm m ys).length_eq; simpa using this
theorem insS_sorted (m : List Int) : ∀ ys : List (List Int), ys.Pairwise (fun a b => lexLt b a = false) → (insS m ys).Pairwise (fun a b => lexLt b a = false)
  | [], _ => by simp [insS]
  | y :: r, h => by
    rw [List.pairwise_cons] at h
    unfold insS
    split
    · rename_i hlt
      rw [List.pairwise_cons]
      refine ⟨fun z hz => ?_, List.pairwise_cons.2 h⟩
      rcases List.mem_cons.1 hz with rfl | hz
      · exact lexLt_asymm _ _ hlt
      · rw [Bool.eq_false_iff]
        intro h2
        have := lexLt_trans _ _ _ h2 hlt
        rw [h.1 z hz] at this; cases this
    · rename_i hge
      rw [List.pairwise_cons]
      refine ⟨fun z hz => ?_, insS_sorted m r h.2⟩
      rcases List.mem_cons.1 ((insS_perm m r).mem_iff.1 hz) with rfl | hz
      · simpa using hge
      · exact h.1 z hz
def allS (f : List Int → Bool) (out : List (List Int)) (m : List Int) : List (List Int) := if f m then insS m out else out
theorem allS_fold (f : List Int → Bool) : ∀ (xs out : List (List Int)), out.Pairwise (fun a b => lexLt b a = false) → (xs.foldl (allS f) out).Pairwise (fun a b => lexLt b a = false) ∧ (xs.foldl (allS f) out).Perm (out ++ xs.filter f)
  | [], out, h => ⟨h, by simp⟩
  | x :: xs, out, h => by
    rw [List.foldl_cons, List.filter_cons]
    cases hf : f x with
    | false =>
      have e : allS f out x = out := by unfold allS; rw [hf]; rfl
      rw [e]
      simpa using allS_fold f xs out h
    | true =>
      have e : allS f out x = insS x out := by unfold allS; rw [hf]; rfl
      rw [e, if_pos rfl]
      obtain ⟨h1, h2⟩ := allS_fold f xs (insS x out) (insS_sorted x out h)
      refine ⟨h1, h2.trans ?_⟩
      refine ((insS_perm x out).append_right _).trans ?_
      rw [List.cons_append]
      exact List.perm_middle.symm
/-- The reference's list of all stable models is ours. -/
theorem all_ref (p : GProg) : (subsL (atomsL p.n.toNat)).foldl (allS (isL p)) [] = allL p := by
  obtain ⟨h1, h2⟩ := allS_fold (isL p) (subsL (atomsL p.n.toNat)) [] List.Pairwise.nil
  exact all_perm p (by simpa using h2) h1
theorem range_fold_step {β : Type} (n k : Nat) (f : Nat → List Int) (g : β → List Int → β) (out : β) (h : k < n) :
    (((List.range n).map f).drop k).foldl g out = (((List.range n).map f).drop (k + 1)).foldl g (g out (f k)) := by
  rw [List.drop_eq_getElem_cons (by simpa using h), List.foldl_cons]; simp
/-- The reference accepts what is stable. -/
theorem is_ref {p : GProg} (hp : ProgIs p) {m : List Int} (hm : incB p.n m = true) (h0 : 0 ≤ p.n) : (satL p.rules m && refMinB (reductL p.rules m) m) = isL p m := by
  rw [is_def hp hm h0, refMin_is _ _ (inc_pair hm)]; rfl
end Go.Proofs.YtamdammaeaeilaaGreat
/- Contract of the reference: All, given that of Is. -/
namespace Go.Proofs.YtamdammaeaeilaaGreat
open Go.RowKit

/-- What is still to be placed. -/
def restS (p : Bool) (x : List Int) (ys : List (List Int)) : List (List Int) := if p then ys else insS x ys
theorem restS_t (x y : List Int) (r : List (List Int)) : restS true x (y :: r) = [y] ++ restS true x r := rfl
theorem restS_lt {x y : List Int} (r : List (List Int)) (h : lexLt x y = true) : restS false x (y :: r) = [x, y] ++ restS true x r := by
  show insS x (y :: r) = _
  unfold insS; rw [if_pos h]; rfl
theorem restS_ge {x y : List Int} (r : List (List Int)) (h : lexLt x y = false) : restS false x (y :: r) = [y] ++ restS false x r := by
  show insS x (y :: r) = _
  rw [insS, if_neg (by simp [h])]; rfl
theorem atoms_succ (k : Nat) : atomsL (k + 1) = atomsL k ++ [(k : Int) + 1] := by unfold atomsL; rw [List.range_succ]; simp
theorem allS_len (f : List Int → Bool) : ∀ (xs out : List (List Int)), (xs.foldl (allS f) out).length ≤ out.length + xs.length
  | [], out => by simp
  | x :: xs, out => by
    rw [List.foldl_cons]
    have h1 := allS_len f xs (allS f out x)
    have h2 : (allS f out x).length ≤ out.length + 1 := by
      unfold allS; split
      · rw [insS_len]; omega
      · omega
    simp; omega
set_option maxRecDepth 100000 in
set_option maxHeartbeats 4000000 in
theorem refAll_any (p : GProg) (nA : Option Addr) (nl nc : Nat) (sA : Option Addr) (sl sc : Nat) (rA : Option Addr) (rl rc : Nat) (mA : Option Addr) (ml mc : Nat) (w : World) (hn0 : 0 ≤ p.n) (hn12 : p.n ≤ 12)
    (cI : ∀ (A : Option Addr) (l c : Nat) (x : List Int) (W : World), Below w.heap.size w W → SlIs intR W A l c x → x.Sublist (atomsL p.n.toNat) → Calls Tryz.prog 20 #[.agg #[.int .i64 p.n, .slice nA nl nc, .slice sA sl sc, .slice rA rl rc, .slice mA ml mc], .slice A l c] W fun e w' => e = .returned (.bool (isL p x)) ∧ Below W.heap.size W w') :
    Calls Tryz.prog 17 #[.agg #[.int .i64 p.n, .slice nA nl nc, .slice sA sl sc, .slice rA rl rc, .slice mA ml mc]] w fun e w' => ∃ A l c, e = .returned (.slice A l c) ∧ SlIs (slR intR) w' A l c (allL p) ∧ Below w.heap.size w w' := by
  have hb0 := bel_alloc w (.cells #[.int .i64 p.n, .slice nA nl nc, .slice sA sl sc, .slice rA rl rc, .slice mA ml mc] 27)
  have hx0 := Blk.new w 27 #[.int .i64 p.n, .slice nA nl nc, .slice sA sl sc, .slice rA rl rc, .slice mA ml mc]
  obtain ⟨N, hN⟩ : ∃ N : Nat, p.n = (N : Int) := ⟨p.n.toNat, by omega⟩
  have hN12 : N ≤ 12 := by omega
  have hNt : p.n.toNat = N := by omega
  have hall := all_ref p
  rw [hNt] at cI hall
  obtain ⟨M, hM⟩ : ∃ M : Nat, M = 2 ^ N := ⟨_, rfl⟩
  have hM1 : M ≤ 4096 := by rw [hM]; exact Nat.le_trans (Nat.pow_le_pow_right (by omega) hN12) (show 2 ^ 12 ≤ 4096 by decide)
  have hM0 : 0 < M := by rw [hM]; exact Nat.pos_of_ne_zero (by simp)
  have hal : (atomsL N).length = N := by simp [atomsL]
  have hsub : subsL (atomsL N) = (List.range M).map (pickL (atomsL N)) := by unfold subsL; rw [hal, hM]
  rw [hsub] at hall
  obtain ⟨W0, hW0⟩ : ∃ W0, W0 = w.alloc (.cells #[.int .i64 p.n, .slice nA nl nc, .slice sA sl sc, .slice rA rl rc, .slice mA ml mc] 27) := ⟨_, rfl⟩
  have hws : W0.heap.size = w.heap.size + 1 := by rw [hW0]; simp
  have cP := fun W => refPower_any N M W hN12 hM
  rw [← hW0] at hb0 hx0
  have HB0 := Lib.hid hb0; clear hb0
  have HX0 := Lib.hid hx0; clear hx0
  have CI := Lib.hid cI; clear cI
  have HN := Lib.hid hN; clear hN
  have HNT := Lib.hid hNt; clear hNt
  have HALL := Lib.hid hall; clear hall
  have HM := Lib.hid hM; clear hM
  have HAL := Lib.hid hal; clear hal
  have HSUB := Lib.hid hsub; clear hsub
  have CP := Lib.hid cP; clear cP
  go_enter Tryz.func17, Tryz.ntmps17
  go_wp2_with fail
  rw [← hW0]
  clear hW0
  go_loopw [3, 4] (fun v t wr => ∃ (k : Nat), k ≤ N ∧ t = .int .i64 ((k : Int) + 1) ∧ OwnI wr (w.heap.size + 1) v k (atomsL k) ∧ Below W0.heap.size W0 wr) (fun _ t _ => N + 1 - (intOf t).toNat)
  case atStart => exact ⟨0, Nat.zero_le _, rfl, OwnI.nil _ _, Below.refl _ _⟩
  case round =>
    obtain ⟨k, hk, rfl, ho, hbw⟩ := hrel
    have hbx := HX0.out.bel hbw
    obtain ⟨p0, p1, p2, p3, p4, p5⟩ := pcells hbx
    rw [HN.out] at p0
    have hszw : w.heap.size + 1 ≤ wr.heap.size := by have := hbw.size; omega
    by_cases hlt : k < N
    · have hk2 : (k : Int) + 1 ≤ (N : Int) := by omega
      have hat := atoms_succ k
      obtain ⟨v1, w3, hrun, own1, hg1, hat1⟩ := app1 ho ((k : Int) + 1) (by omega) hszw 23
      have hb3 := bel_grown hbw hg1 hbw.size (fun q hq => by have := (ho.2.lt q hq).1; omega)
      rw [← hat] at own1
      have HO := Lib.hid ho; clear ho
      have HRUN := Lib.hid hrun; clear hrun
      have OWN1 := Lib.hid own1; clear own1
      have HG1 := Lib.hid hg1; clear hg1
      have HAT1 := Lib.hid hat1; clear hat1
      have HB3 := Lib.hid hb3; clear hb3
      have HBW := Lib.hid hbw; clear hbw
      have HBX := Lib.hid hbx; clear hbx
      have HAT := Lib.hid hat; clear hat
      go_wp2_with (at_builtin; refine wpList_append_run rfl _ _ _ rfl _ _ rfl rfl _ _ HRUN.out ?_)
      go_roundw
      case rel => exact ⟨k + 1, by omega, by go_num, OWN1.out, HB3.out⟩
      case measure => simp [intOf]; omega
    · have hkN : k = N := by omega
      subst hkN
      obtain ⟨aA, ac, rfl, hat⟩ := ho.sl (by omega) (fun y hy => by have := (atoms_mem k y).1 hy; unfold I64; omega)
      have hbw2 := bel_trans HB0.out hbw
      have HO := Lib.hid ho; clear ho
      have HBX := Lib.hid hbx; clear hbx
      have HBW := Lib.hid hbw; clear hbw
      have HAT := Lib.hid hat; clear hat
      have HBW2 := Lib.hid hbw2; clear hbw2
      go_wp2_with fail
      obtain ⟨wa, rfl⟩ : ∃ wa : World, wa = wr := ⟨_, rfl⟩
      clear p0 p1 p2 p3 p4 p5
      clear HX0 HB0 HBW
      go_loopw [5, 6] (fun v t wr => ∃ (b lv : Nat) (A : Option Addr) (c : Nat) (out : List (List Int)), b ≤ M ∧ t = .int .i64 (b : Int) ∧ v = .slice A lv c ∧ SlIs (slR intR) wr A lv c out ∧ lv ≤ b ∧ Below wa.heap.size wa wr ∧ allL p = (((List.range M).map (pickL (atomsL k))).drop b).foldl (allS (isL p)) out) (fun _ t _ => M - (intOf t).toNat)
      case atStart => exact ⟨0, 0, none, 0, [], Nat.zero_le _, rfl, rfl, SlIs.nil _ _, Nat.le_refl _, Below.refl _ _, HALL.out.symm⟩
      case round =>
        obtain ⟨b, lv, A, c, out, hb, rfl, rfl, hv, hlv, hbw, hs⟩ := hrel
        have hx1 := HBX.out.bel hbw
        obtain ⟨p0, p1, p2, p3, p4, p5⟩ := pcells hx1
        rw [HN.out] at p0
        have hbw2 := bel_trans HBW2.out hbw
        by_cases hlt2 : b < M
        · rw [range_fold_step _ _ _ _ _ hlt2] at hs
          have cU := refSubset_any _ k ac (atomsL k) b wr (HAT.out.ext hbw) (by omega)
          have hbi : (b : Int) < (M : Int) := by omega
          have HV := Lib.hid hv; clear hv
          have HBW := Lib.hid hbw; clear hbw
          have HBW2 := Lib.hid hbw2; clear hbw2
          have HS := Lib.hid hs; clear hs
          have HX1 := Lib.hid hx1; clear hx1
          have CU := Lib.hid cU; clear cU
          go_wp2_with fail
          go_fit (CP.out _); rintro e w' ⟨rfl, rfl⟩
          go_wp2_with fail
          go_fit CU.out; rintro e w2 ⟨xA, xl, xc, rfl, hxs, hb2⟩
          have hx2 := HX1.out.bel hb2
          clear p0 p1 p2 p3 p4 p5
          obtain ⟨p0, p1, p2, p3, p4, p5⟩ := pcells hx2
          have hv2 := HV.out.ext hb2
          have hbw3 := bel_trans HBW.out hb2
          have hbw4 := bel_trans HBW2.out hb2
          have cIs := CI.out xA xl xc _ w2 hbw4 hxs (pickL_sub _ _)
          have hstp : allS (isL p) out (pickL (atomsL k) b) = if isL p (pickL (atomsL k) b) then insS (pickL (atomsL k) b) out else out := rfl
          clear HX1 HV hb2
          generalize pickL (atomsL k) b = x at *
          cases hisx : isL p x with
          | false =>
            rw [hisx] at cIs hstp
            rw [if_neg (by simp)] at hstp
            have CIS := Lib.hid cIs; clear cIs
            have HXS := Lib.hid hxs; clear hxs
            have HX2 := Lib.hid hx2; clear hx2
            have HV2 := Lib.hid hv2; clear hv2
            have HBW3 := Lib.hid hbw3; clear hbw3
            have HBW4 := Lib.hid hbw4; clear hbw4
            have HISX := Lib.hid hisx; clear hisx
            have HSTP := Lib.hid hstp; clear hstp
            go_wp2_with fail
            go_fit CIS.out; rintro e w3 ⟨rfl, hb3⟩
            have hbw5 := bel_trans HBW3.out hb3
            have hv3 := HV2.out.ext hb3
            have HBW5 := Lib.hid hbw5; clear hbw5
            have HV3 := Lib.hid hv3; clear hv3
            have HB3 := Lib.hid hb3; clear hb3
            go_wp2_with fail
            go_roundw
            case rel => exact ⟨b + 1, lv, _, _, out, by omega, by go_num, rfl, HV3.out, by omega, HBW5.out, by rw [HS.out, HSTP.out]⟩
            case measure => simp [intOf]; omega
          | true =>
            rw [hisx] at cIs hstp
            rw [if_pos rfl] at hstp
            have CIS := Lib.hid cIs; clear cIs
            have HXS := Lib.hid hxs; clear hxs
            have HX2 := Lib.hid hx2; clear hx2
            have HV2 := Lib.hid hv2; clear hv2
            have HBW3 := Lib.hid hbw3; clear hbw3
            have HBW4 := Lib.hid hbw4; clear hbw4
            have HISX := Lib.hid hisx; clear hisx
            have HSTP := Lib.hid hstp; clear hstp
            go_wp2_with fail
            go_fit CIS.out; rintro e wm ⟨rfl, hb3⟩
            have hbw5 := bel_trans HBW3.out hb3
            have hv3 := HV2.out.ext hb3
            have hxs3 := HXS.out.ext hb3
            have hlx := hxs3.cap
            have hlm := hxs3.max
            have hvc := hv3.cap
            have hvm := hv3.max
            have hvl := hv3.len
            have HBW5 := Lib.hid hbw5; clear hbw5
            have HV3 := Lib.hid hv3; clear hv3
            have HB3 := Lib.hid hb3; clear hb3
            have HXS3 := Lib.hid hxs3; clear hxs3
            have HVL := Lib.hid hvl; clear hvl
            clear HV2 HBW3 HBW4 HX2 HXS
            clear p0 p1 p2 p3 p4 p5
            go_wp2_with fail
            go_loopw [8, 9, 10] (fun nv pv t wr => ∃ (j : Nat) (q : Bool) (ns : List (List Int)), j ≤ lv ∧ t = .int .i64 (j : Int) ∧ (q = true ∧ pv = .int .i64 1 ∨ q = false ∧ pv = .int .i64 0) ∧ OwnB (slR intR) 23 wm wm.heap.size wr nv ns ∧ insS x out = ns ++ restS q x (out.drop j)) (fun _ _ t _ => lv - (intOf t).toNat)
            case atStart => exact ⟨0, false, [], Nat.zero_le _, rfl, .inr ⟨rfl, rfl⟩, OwnB.nil (Below.refl _ _) (Nat.le_refl _) (Nat.le_refl _), rfl⟩
            case round =>
              obtain ⟨j, q, ns, hj, rfl, hp, ho, hs3⟩ := hrel
              have hbw6 := ho.below
              have hln : ns.length ≤ lv + 1 := by
                have h5 := congrArg List.length hs3
                rw [insS_len, List.length_append, ← HVL.out] at h5
                omega
              by_cases hlt3 : j < lv
              · obtain ⟨y, hy, hd3⟩ := HV3.out.drop hlt3
                obtain ⟨b3, o3, yA, yl, yc, rfl, hb3l, cy0, hys⟩ := HV3.out.set hy
                have cy := (hbw6.cell (p := ⟨b3, o3 + j, none⟩) hb3l).trans cy0
                have j0 : (0 : Int) ≤ (j : Int) := by omega
                have j1 : (j : Int) < (lv : Int) := by omega
                rw [hd3] at hs3
                rcases hp with ⟨rfl, rfl⟩ | ⟨rfl, rfl⟩
                · rw [restS_t, ← List.append_assoc] at hs3
                  obtain ⟨v1, w4, hrun, own1, hg1, hat1⟩ := ho.app1 ety_set [.slice yA yl yc] y ⟨_, _, _, rfl, hys⟩ (by omega) 31
                  have HO := Lib.hid ho; clear ho
                  have HS3 := Lib.hid hs3; clear hs3
                  have HY := Lib.hid hy; clear hy
                  have HD3 := Lib.hid hd3; clear hd3
                  have HYS := Lib.hid hys; clear hys
                  have CY0 := Lib.hid cy0; clear cy0
                  have HRUN := Lib.hid hrun; clear hrun
                  have OWN1 := Lib.hid own1; clear own1
                  have HG1 := Lib.hid hg1; clear hg1
                  have HAT1 := Lib.hid hat1; clear hat1
                  have HBW6 := Lib.hid hbw6; clear hbw6
                  go_wp2_with (at_builtin; refine wpList_append_run rfl _ _ _ rfl _ _ rfl rfl _ _ HRUN.out ?_)
                  go_roundw
                  case rel => exact ⟨j + 1, true, _, by omega, by go_num, .inl ⟨rfl, rfl⟩, OWN1.out, HS3.out⟩
                  case measure => simp [intOf]; omega
                · have cL := refLess_any xA xl xc yA yl yc x y wr (HXS3.out.ext hbw6) (hys.ext hbw6)
                  have hlc := hys.cap
                  have hlm2 := hys.max
                  cases hxy : lexLt x y with
                  | true =>
                    rw [hxy] at cL
                    rw [restS_lt _ hxy, ← List.append_assoc, show ns ++ [x, y] = (ns ++ [x]) ++ [y] by simp] at hs3
                    have HO := Lib.hid ho; clear ho
                    have HS3 := Lib.hid hs3; clear hs3
                    have HY := Lib.hid hy; clear hy
                    have HD3 := Lib.hid hd3; clear hd3
                    have HYS := Lib.hid hys; clear hys
                    have CY0 := Lib.hid cy0; clear cy0
                    have HBW6 := Lib.hid hbw6; clear hbw6
                    have CL := Lib.hid cL; clear cL
                    have HXY := Lib.hid hxy; clear hxy
                    go_wp2_with fail
                    go_fit CL.out; rintro e w4 ⟨rfl, hb4⟩
                    have ho4 := HO.out.bel hb4
                    obtain ⟨v1, w5, hrun, own1, hg1, hat1⟩ := ho4.app1 ety_set [.slice xA xl xc] x ⟨_, _, _, rfl, HXS3.out⟩ (by omega) 31
                    obtain ⟨v2, w6, hrun2, own2, hg2, hat2⟩ := own1.app1 ety_set [.slice yA yl yc] y ⟨_, _, _, rfl, HYS.out⟩ (by simp; omega) 31
                    have cy5 := (own1.below.cell (p := ⟨b3, o3 + j, none⟩) hb3l).trans CY0.out
                    clear cy
                    have HO4 := Lib.hid ho4; clear ho4
                    have HRUN := Lib.hid hrun; clear hrun
                    have OWN1 := Lib.hid own1; clear own1
                    have HG1 := Lib.hid hg1; clear hg1
                    have HAT1 := Lib.hid hat1; clear hat1
                    have HRUN2 := Lib.hid hrun2; clear hrun2
                    have OWN2 := Lib.hid own2; clear own2
                    have HG2 := Lib.hid hg2; clear hg2
                    have HAT2 := Lib.hid hat2; clear hat2
                    have HB4 := Lib.hid hb4; clear hb4
                    go_wp2_with (at_builtin; first | refine wpList_append_run rfl _ _ _ rfl _ _ rfl rfl _ _ HRUN.out ?_ | refine wpList_append_run rfl _ _ _ rfl _ _ rfl rfl _ _ HRUN2.out ?_)
                    go_roundw
                    case rel => exact ⟨j + 1, true, _, by omega, by go_num, .inl ⟨rfl, rfl⟩, OWN2.out, HS3.out⟩
                    case measure => simp [intOf]; omega
                  | false =>
                    rw [hxy] at cL
                    rw [restS_ge _ hxy, ← List.append_assoc] at hs3
                    have HO := Lib.hid ho; clear ho
                    have HS3 := Lib.hid hs3; clear hs3
                    have HY := Lib.hid hy; clear hy
                    have HD3 := Lib.hid hd3; clear hd3
                    have HYS := Lib.hid hys; clear hys
                    have CY0 := Lib.hid cy0; clear cy0
                    have HBW6 := Lib.hid hbw6; clear hbw6
                    have CL := Lib.hid cL; clear cL
                    have HXY := Lib.hid hxy; clear hxy
                    go_wp2_with fail
                    go_fit CL.out; rintro e w4 ⟨rfl, hb4⟩
                    have ho4 := HO.out.bel hb4
                    have cy4 := (ho4.below.cell (p := ⟨b3, o3 + j, none⟩) hb3l).trans CY0.out
                    obtain ⟨v1, w5, hrun, own1, hg1, hat1⟩ := ho4.app1 ety_set [.slice yA yl yc] y ⟨_, _, _, rfl, HYS.out⟩ (by omega) 31
                    clear cy
                    have HO4 := Lib.hid ho4; clear ho4
                    have HRUN := Lib.hid hrun; clear hrun
                    have OWN1 := Lib.hid own1; clear own1
                    have HG1 := Lib.hid hg1; clear hg1
                    have HAT1 := Lib.hid hat1; clear hat1
                    have HB4 := Lib.hid hb4; clear hb4
                    go_wp2_with (at_builtin; refine wpList_append_run rfl _ _ _ rfl _ _ rfl rfl _ _ HRUN.out ?_)
                    go_roundw
                    case rel => exact ⟨j + 1, false, _, by omega, by go_num, .inr ⟨rfl, rfl⟩, OWN1.out, HS3.out⟩
                    case measure => simp [intOf]; omega
              · rw [HV3.out.stop (show lv ≤ j by omega)] at hs3
                rcases hp with ⟨rfl, rfl⟩ | ⟨rfl, rfl⟩
                · rw [show restS true x [] = [] from rfl, List.append_nil] at hs3
                  obtain ⟨vA, vc, rfl, hsv⟩ := ho.sl (by omega)
                  have hll : ns.length ≤ b + 1 := by omega
                  have hbe := bel_trans HBW5.out hbw6
                  have HO := Lib.hid ho; clear ho
                  have HS3 := Lib.hid hs3; clear hs3
                  have HSV := Lib.hid hsv; clear hsv
                  have HBE := Lib.hid hbe; clear hbe
                  have HBW6 := Lib.hid hbw6; clear hbw6
                  go_wp2_with fail
                  go_roundw
                  case rel => exact ⟨b + 1, _, _, _, _, by omega, by go_num, rfl, HSV.out, hll, HBE.out, by rw [HS.out, HSTP.out, HS3.out]⟩
                  case measure => simp [intOf]; omega
                · rw [show restS false x [] = [x] from rfl] at hs3
                  obtain ⟨v1, w4, hrun, own1, hg1, hat1⟩ := ho.app1 ety_set [.slice xA xl xc] x ⟨_, _, _, rfl, HXS3.out⟩ (by omega) 31
                  have hl2 : (ns ++ [x]).length ≤ b + 1 := by
                    rw [← hs3, insS_len, ← HVL.out]; omega
                  obtain ⟨vA, vc, rfl, hsv⟩ := own1.sl (by omega)
                  rw [List.length_append, List.length_singleton] at hsv hl2
                  have hbe := bel_trans HBW5.out own1.below
                  have HO := Lib.hid ho; clear ho
                  have HS3 := Lib.hid hs3; clear hs3
                  have HSV := Lib.hid hsv; clear hsv
                  have HBE := Lib.hid hbe; clear hbe
                  have HBW6 := Lib.hid hbw6; clear hbw6
                  have HRUN := Lib.hid hrun; clear hrun
                  have OWN1 := Lib.hid own1; clear own1
                  have HG1 := Lib.hid hg1; clear hg1
                  have HAT1 := Lib.hid hat1; clear hat1
                  go_wp2_with (at_builtin; refine wpList_append_run rfl _ _ _ rfl _ _ rfl rfl _ _ HRUN.out ?_)
                  go_roundw
                  case rel => exact ⟨b + 1, _, _, _, _, by omega, by go_num, rfl, HSV.out, hl2, HBE.out, by rw [HS.out, HSTP.out, HS3.out]⟩
                  case measure => simp [intOf]; omega
        · rw [List.drop_eq_nil_of_le (by simp; omega), List.foldl_nil] at hs
          have hbi : ¬ (b : Int) < (M : Int) := by omega
          have HV := Lib.hid hv; clear hv
          have HBW := Lib.hid hbw; clear hbw
          have HBW2 := Lib.hid hbw2; clear hbw2
          have HS := Lib.hid hs; clear hs
          have HX1 := Lib.hid hx1; clear hx1
          go_wp2_with fail
          go_fit (CP.out _); rintro e w' ⟨rfl, rfl⟩
          go_wp2_with fail
          go_ret
          exact ⟨_, _, _, rfl, by rw [HS.out]; exact HV.out, HBW2.out⟩
end Go.Proofs.YtamdammaeaeilaaGreat

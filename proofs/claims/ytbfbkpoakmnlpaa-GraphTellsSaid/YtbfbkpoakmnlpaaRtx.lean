/- Contract of the reference: extend, Cycle. -/
import Derived.Test.YtbfbkpoakmnlpaaRte
import Derived.Test.YtbfbkpoakmnlpaaCyx
import Derived.Test.YtbfbkpoakmnlpaaG1
import Derived.Test.YtbfbkpoakmnlpaaRr0
import Derived.Test.YtbfbkpoakmnlpaaInv
namespace Go.Proofs.Ytbfbkpoakmnlpaa
open Go.RowKit

set_option maxRecDepth 100000 in
set_option maxHeartbeats 8000000 in
theorem refExt_any (p : GProg) (nA : Option Addr) (nl nc : Nat) (sA : Option Addr) (sl sc : Nat) (rA : Option Addr) (rl rc : Nat) (mA : Option Addr) (ml mc : Nat) (len N : Nat) (hNn : p.n = (N : Int)) (hN12 : N ≤ 12) (hlen : len ≤ 12) : ∀ (f : Nat) (A : Option Addr) (l c : Nat) (bg : List Int) (w : World), ProgIn w p nA nl nc sA sl sc rA rl rc mA ml mc → SlIs intR w A l c bg → bg.length + f = len + 1 → bg ≠ [] → 1 ≤ f → (∀ b ∈ bg, 1 ≤ b ∧ b ≤ p.n) →
    Calls Try.prog 47 #[.agg #[.int .i64 p.n, .slice nA nl nc, .slice sA sl sc, .slice rA rl rc, .slice mA ml mc], .slice A l c, .int .i64 (len : Int)] w fun e w' => ∃ A' l' c', e = .returned (.slice A' l' c') ∧ SlIs intR w' A' l' c' (extF p len f bg) ∧ Below w.heap.size w w'
  | 0, _, _, _, _, _, _, _, _, _, h, _ => absurd h (by omega)
  | f + 1, A, l, c, bg, w, hp, hs, hfl, hne, _, hrg => by
    have ih := refExt_any p nA nl nc sA sl sc rA rl rc mA ml mc len N hNn hN12 hlen f
    have hsl := hs.len
    have hsc := hs.cap
    have hsm := hs.max
    have hpos := List.length_pos_iff.2 hne
    have hl12 : l ≤ 13 := by omega
    obtain ⟨lm, hlm⟩ : ∃ lm, l = lm + 1 := ⟨l - 1, by omega⟩
    have e1 : (l : Int) - 1 = (lm : Int) := by omega
    obtain ⟨x, hx, -⟩ := hs.drop (show lm < l by omega)
    obtain ⟨h, hh, -⟩ := hs.drop (show 0 < l by omega)
    obtain ⟨xb, xo, ea, _, hxm, -⟩ := hs.int hx
    cases ea
    obtain ⟨_, _, ea, _, hhm, -⟩ := hs.int hh
    cases ea
    have hlz : lastZ bg = x := by unfold lastZ; rw [List.getD_eq_getElem?_getD, ← hsl, hlm, Nat.add_sub_cancel, hx]; rfl
    have hhd : bg.headD 0 = h := by
      cases bg with
      | nil => cases hh
      | cons a t => simpa using hh
    have hxr := hrg x (List.mem_of_getElem? hx)
    have hhr := hrg h (List.mem_of_getElem? hh)
    have hx1 := Blk.new w 27 #[.int .i64 p.n, .slice nA nl nc, .slice sA sl sc, .slice rA rl rc, .slice mA ml mc]
    have hb1 := bel_alloc w (.cells #[.int .i64 p.n, .slice nA nl nc, .slice sA sl sc, .slice rA rl rc, .slice mA ml mc] 27)
    have cE := fun (a b : Int) W (hb : Below w.heap.size w W) => refEdge_any p nA nl nc sA sl sc rA rl rc mA ml mc a b W (hp.ext hb)
    rw [hNn] at hx1 hb1 cE ih
    rw [hNn]
    have l0 : (0 : Int) ≤ (lm : Int) := by omega
    have l1 : (lm : Int) < (l : Int) := by omega
    have l2 : (0 : Int) < (l : Int) := by omega
    have hdef : extF p len (f + 1) bg = if bg.length = len then (if edB p x h then bg else []) else firstN (fun k => if extC p bg k then extF p len f (bg ++ [h + 1 + (k : Int)]) else []) ((N : Int) - h).toNat := by rw [extF, hlz, hhd, hNn]
    have HP := Lib.hid hp; clear hp
    have HS := Lib.hid hs; clear hs
    have HFL := Lib.hid hfl; clear hfl
    have HNE := Lib.hid hne; clear hne
    have HRG := Lib.hid hrg; clear hrg
    have IH := Lib.hid ih; clear ih
    have HSL := Lib.hid hsl; clear hsl
    have HLM := Lib.hid hlm; clear hlm
    have HX := Lib.hid hx; clear hx
    have HH := Lib.hid hh; clear hh
    have HLZ := Lib.hid hlz; clear hlz
    have HHD := Lib.hid hhd; clear hhd
    have HX1 := Lib.hid hx1; clear hx1
    have HB1 := Lib.hid hb1; clear hb1
    have CE := Lib.hid cE; clear cE
    have HDEF := Lib.hid hdef; clear hdef
    have HNN := Lib.hid hNn; clear hNn
    go_enter Try.func47, Try.ntmps47
    have hhm0 : w.cell? ⟨xb, xo, none⟩ = some (.int .i64 h) := hhm
    clear hhm
    by_cases heq : l = len
    · have hq : ((l : Int) == (len : Int)) = true := by simp; omega
      have hq2 : (l : Int) = (len : Int) := by omega
      have HEQ := Lib.hid heq; clear heq
      clear hq2
      go_wp2_with fail
      refine wp_region_later [(⟨w.heap.size, 0, none⟩, .int .i64 (N : Int)), (⟨w.heap.size, 1, none⟩, .slice nA nl nc), (⟨w.heap.size, 2, none⟩, .slice sA sl sc), (⟨w.heap.size, 3, none⟩, .slice rA rl rc), (⟨w.heap.size, 4, none⟩, .slice mA ml mc), (⟨xb, xo, none⟩, .int .i64 h)] (by kernel_rfl) (by kernel_rfl) (by simp [go_sem, *]) ?_
      intro hk; simp only [List.forall_mem_cons] at hk; obtain ⟨k0, k1, k2, k3, k4, k5, k9⟩ := hk; clear k9
      repeat go_big_quiet_step ((go_at_call 46; exact Calls.later (CE.out x h _ (bel_trans HB1.out (Later.h _)))))
      refine wpQuiet_nil ?_
      rintro w2 ⟨u2, rfl⟩
      have hB2 := bel_trans HB1.out u2.h
      generalize u2.w = w2 at *
      clear k0 k1 k2 k3 k4 k5
      have hs2 := HS.out.ext hB2
      have hd2 := HDEF.out
      rw [if_pos (by rw [← HSL.out]; exact HEQ.out)] at hd2
      cases hed : edB p x h with
      | true =>
        rw [hed, if_pos rfl] at hd2
        rw [← hd2] at hs2
        have HB2 := Lib.hid hB2; clear hB2
        have HS2 := Lib.hid hs2; clear hs2
        have HD2 := Lib.hid hd2; clear hd2
        have HED := Lib.hid hed; clear hed
        go_wp2_with fail
        go_ret
        exact ⟨_, _, _, rfl, HS2.out, HB2.out⟩
      | false =>
        rw [hed] at hd2
        have hd3 : extF p len (f + 1) bg = [] := hd2
        have HB2 := Lib.hid hB2; clear hB2
        have HS2 := Lib.hid hs2; clear hs2
        have HD3 := Lib.hid hd3; clear hd3
        have HED := Lib.hid hed; clear hed
        clear hd2
        go_wp2_with fail
        go_ret
        exact ⟨_, _, _, rfl, by rw [HD3.out]; exact SlIs.nil _ _, HB2.out⟩
    · have hq : ((l : Int) == (len : Int)) = false := by simp; omega
      have hq2 : ¬ (l : Int) = (len : Int) := by omega
      have hd2 := HDEF.out
      rw [if_neg (by rw [← HSL.out]; exact heq)] at hd2
      have hm0 : (w.alloc (.cells #[.int .i64 (N : Int), .slice nA nl nc, .slice sA sl sc, .slice rA rl rc, .slice mA ml mc] 27)).cell? ⟨w.heap.size, 0, none⟩ = some (.int .i64 (N : Int)) := HX1.out.cell 0
      obtain ⟨hn, hhn⟩ : ∃ hn : Nat, h = (hn : Int) := ⟨h.toNat, by omega⟩
      subst hhn
      have hnr1 : (1 : Int) ≤ (hn : Int) := hhr.1
      have hnr2 : (hn : Int) ≤ 12 := by have := hhr.2; have := HNN.out; omega
      rw [show (((N : Int) - (hn : Int)).toNat) = N - hn by omega] at hd2
      have HEQ := Lib.hid heq; clear heq
      have HD2 := Lib.hid hd2; clear hd2
      go_wp2_with fail
      generalize w.alloc (.cells #[.int .i64 (N : Int), .slice nA nl nc, .slice sA sl sc, .slice rA rl rc, .slice mA ml mc] 27) = w1 at *
      go_loopw [8, 9] (fun t z wr => ∃ k : Nat, k ≤ N - hn ∧ t = .int .i64 ((hn : Int) + 1 + (k : Int)) ∧ Below w1.heap.size w1 wr ∧ ∀ j < k, (if extC p bg j then extF p len f (bg ++ [(hn : Int) + 1 + (j : Int)]) else []) = []) (fun t _ _ => N + 1 - (intOf t).toNat)
      case atStart => exact ⟨0, Nat.zero_le _, by simp, Below.refl _ _, fun j hj => absurd hj (by omega)⟩
      case round =>
        obtain ⟨k, hk, rfl, hB, hno⟩ := hrel
        obtain ⟨wa, rfl⟩ : ∃ wa : World, wa = wr := ⟨_, rfl⟩
        obtain ⟨b, hbe⟩ : ∃ b, b = hn + 1 + k := ⟨_, rfl⟩
        have hbe2 : (hn : Int) + 1 + (k : Int) = (b : Int) := by omega
        rw [hbe2]
        have b0 : (0 : Int) ≤ (b : Int) := by omega
        have hbw := bel_trans HB1.out hB
        have m0 : wa.cell? ⟨w.heap.size, 0, none⟩ = some (.int .i64 (N : Int)) := (hB.cell (World.block_lt_of_cell? _ _ hm0)).trans hm0
        by_cases hlt : k < N - hn
        · have b1 : (b : Int) ≤ (N : Int) := by omega
          have hec : extC p bg k = (edB p x (b : Int) && decide ((b : Int) ∉ bg)) := by unfold extC; rw [HLZ.out, HHD.out, hbe2]
          have cEd := CE.out x (b : Int) wa hbw
          have hs2 := HS.out.ext hbw
          have hxa := HX1.out.bel hB
          obtain ⟨ed, hed⟩ : ∃ ed, ed = edB p x (b : Int) := ⟨_, rfl⟩
          rw [← hed] at cEd hec
          clear hed
          obtain ⟨p0, p1, p2, p3, p4, p5⟩ := pcells hxa
          have HB := Lib.hid hB; clear hB
          have HNO := Lib.hid hno; clear hno
          have HBW := Lib.hid hbw; clear hbw
          have HEC := Lib.hid hec; clear hec
          have CED := Lib.hid cEd; clear cEd
          have HS2 := Lib.hid hs2; clear hs2
          have HXA := Lib.hid hxa; clear hxa
          have HBE := Lib.hid hbe; clear hbe
          have HBE2 := Lib.hid hbe2; clear hbe2
          go_wp2_with fail
          go_fit CED.out; rintro e wb ⟨rfl, hb⟩
          clear p0 p1 p2 p3 p4 p5
          clear m0
          have hB2 := bel_trans HB.out hb
          have hs3 := HS2.out.ext hb
          have hxb := HXA.out.bel hb
          have hbw2 := bel_trans HBW.out hb
          clear hb
          have hnx : extC p bg k = false → ∀ j < k + 1, (if extC p bg j then extF p len f (bg ++ [(hn : Int) + 1 + (j : Int)]) else []) = [] := fun h j hj => by
            by_cases e : j = k
            · subst e; rw [h]; rfl
            · exact HNO.out j (by omega)
          cases ed with
          | false =>
            have hn9 := hnx (by rw [HEC.out]; rfl)
            have HB2 := Lib.hid hB2; clear hB2
            have HS3 := Lib.hid hs3; clear hs3
            have HXB := Lib.hid hxb; clear hxb
            have HBW2 := Lib.hid hbw2; clear hbw2
            have HN9 := Lib.hid hn9; clear hn9
            clear hnx
            go_wp2_with fail
            go_roundw
            case rel => exact ⟨k + 1, by omega, by have := HBE2.out; first | (go_num; done) | (congr 1; omega) | (simp; omega), HB2.out, HN9.out⟩
            case measure => simp [intOf]; omega
          | true =>
            have cIn := refIn_any (some ⟨xb, xo, none⟩) l c bg (b : Int) wb hs3
            by_cases hin : (b : Int) ∈ bg
            · rw [decide_eq_true hin] at cIn
              have hn9 := hnx (by rw [HEC.out, decide_eq_false (fun q => q hin)]; rfl)
              have HB2 := Lib.hid hB2; clear hB2
              have HS3 := Lib.hid hs3; clear hs3
              have HXB := Lib.hid hxb; clear hxb
              have HBW2 := Lib.hid hbw2; clear hbw2
              have HN9 := Lib.hid hn9; clear hn9
              have CIN := Lib.hid cIn; clear cIn
              have HIN := Lib.hid hin; clear hin
              clear hnx
              go_wp2_with fail
              go_fit CIN.out; rintro e wc ⟨rfl, rfl⟩
              go_wp2_with fail
              go_roundw
              case rel => exact ⟨k + 1, by omega, by have := HBE2.out; first | (go_num; done) | (congr 1; omega) | (simp; omega), HB2.out, HN9.out⟩
              case measure => simp [intOf]; omega
            · rw [decide_eq_false hin] at cIn
              have hct : extC p bg k = true := by rw [HEC.out, decide_eq_true hin]; rfl
              have hb64 : I64 (b : Int) := by unfold I64; omega
              have HB2 := Lib.hid hB2; clear hB2
              have HS3 := Lib.hid hs3; clear hs3
              have HXB := Lib.hid hxb; clear hxb
              have HBW2 := Lib.hid hbw2; clear hbw2
              have CIN := Lib.hid cIn; clear cIn
              have HIN := Lib.hid hin; clear hin
              have HCT := Lib.hid hct; clear hct
              have HB64 := Lib.hid hb64; clear hb64
              clear hnx
              go_wp2_with fail
              go_fit CIN.out; rintro e wq ⟨rfl, rfl⟩
              obtain ⟨wq, rfl⟩ : ∃ wq : World, wq = wb := ⟨_, rfl⟩
              have hfl9 := HFL.out
              have hsl9 := HSL.out
              have hf9 : (bg ++ [(b : Int)]).length + f = len + 1 := by rw [List.length_append, List.length_singleton]; omega
              have hf1 : 1 ≤ f := by have := HEQ.out; omega
              have hrg2 : ∀ z ∈ bg ++ [(b : Int)], 1 ≤ z ∧ z ≤ (N : Int) := fun z hz => by
                rcases List.mem_append.1 hz with q | q
                · have := HRG.out z q
                  have := HNN.out
                  omega
                · have : z = (b : Int) := by simpa using q
                  have := HBE.out
                  omega
              have hrg9 : ∀ z ∈ bg ++ [(b : Int)], I64 z := fun z hz => by
                have := hrg2 z hz
                unfold I64; omega
              clear hfl9 hsl9
              have HF9 := Lib.hid hf9; clear hf9
              have HF1 := Lib.hid hf1; clear hf1
              have HRG2 := Lib.hid hrg2; clear hrg2
              have HRG9 := Lib.hid hrg9; clear hrg9
              go_wp2_with fail
              refine wp_region_inv (fun listed a' w' => ∃ (b0 b1 b2 b3 b4 b5 b6 b7 b8 b9 : Bool) (u47 u48 u49 u50 u51 u52 u53 u54 u55 u9 : Value), listed = #[b0, b1, b2, b3, b4, b5, b6, b7, b8, b9] ∧ a' = { tmps := #[.agg #[.int .i64 (N : Int), .slice nA nl nc, .slice sA sl sc, .slice rA rl rc, .slice mA ml mc], .slice (some ⟨xb, xo, none⟩) l c, .int .i64 (len : Int), .pointer (some ⟨w.heap.size, 0, none⟩), undef, undef, u6, .int .i64 x, .int .i64 (b : Int), u9, .slice (some ⟨xb, xo, none⟩) l c, .slice (some ⟨xb, xo, none⟩) l c, .int .i64 (l : Int), .int .i64 (lm : Int), .pointer (some ⟨xb, xo + lm, none⟩), .int .i64 x, .slice (some ⟨xb, xo, none⟩) l c, .int .i64 (l : Int), .int .i64 (len : Int), .bool false, undef, undef, undef, undef, undef, undef, undef, .slice (some ⟨xb, xo, none⟩) l c, .pointer (some ⟨xb, xo, none⟩), .int .i64 (hn : Int), .int .i64 ((hn : Int) + 1), .int .i64 (b : Int), .pointer (some ⟨w.heap.size, 0, none⟩), .int .i64 (N : Int), .bool true, u35, u36, .agg #[.int .i64 (N : Int), .slice nA nl nc, .slice sA sl sc, .slice rA rl rc, .slice mA ml mc], .int .i64 x, .int .i64 (b : Int), .bool true, .bool true, .slice (some ⟨xb, xo, none⟩) l c, .int .i64 (b : Int), .bool false, .bool true, .bool true, u47, u48, u49, u50, u51, u52, u53, u54, u55, u56, u57, u58, u59], defers := [] } ∧ (Below wq.heap.size wq w') ∧ (b0 = true → u47 = .agg #[.int .i64 (N : Int), .slice nA nl nc, .slice sA sl sc, .slice rA rl rc, .slice mA ml mc]) ∧ (b1 = true → b3 = false → OwnI w' wq.heap.size u48 0 []) ∧ (b2 = true → u49 = .slice (some ⟨xb, xo, none⟩) l c) ∧ (b3 = true → b6 = false → OwnI w' wq.heap.size u50 l bg) ∧ (b4 = true → u51 = .int .i64 (b : Int)) ∧ (b5 = true → b6 = false → ∃ sb, u52 = .slice (some ⟨sb, 0, none⟩) 1 1 ∧ Blk w' sb 3 #[.int .i64 (b : Int)] ∧ (b1 = true → b3 = false → u48.ownBlock ≠ some sb) ∧ (b3 = true → u50.ownBlock ≠ some sb)) ∧ (b6 = true → b8 = false → OwnI w' wq.heap.size u53 (l + 1) (bg ++ [(b : Int)])) ∧ (b7 = true → u54 = .int .i64 (len : Int)) ∧ (b8 = true → ∃ A' l' c', u55 = .slice A' l' c' ∧ SlIs intR w' A' l' c' (extF p len f (bg ++ [(b : Int)]))) ∧ (b9 = true → u9 = u55) ∧ (b3 = true → b1 = true) ∧ (b6 = true → b3 = true ∧ b5 = true) ∧ (b8 = true → b6 = true) ∧ (b9 = true → b8 = true)) (by kernel_rfl) ?start ?step ?_
              case start => exact ⟨false, false, false, false, false, false, false, false, false, false, _, _, _, _, _, _, _, _, _, _, rfl, rfl, (Below.refl _ _).drew, (by simp), (by simp), (by simp), (by simp), (by simp), (by simp), (by simp), (by simp), (by simp), (by simp), (by simp), (by simp), (by simp), (by simp)⟩
              case step =>
                rintro listed a' w' i o ⟨b0, b1, b2, b3, b4, b5, b6, b7, b8, b9, u47, u48, u49, u50, u51, u52, u53, u54, u55, u9, rfl, rfl, hB, f0, f1, f2, f3, f4, f5, f6, f7, f8, f9, c3, c6, c8, c9⟩ ho hli hd K hK
                match i, ho, hli, hd with
                | 0, ho, hli, hd =>
                  obtain rfl := Option.some.inj ho
                  obtain rfl : b0 = false := hli
                  have hxc := HXB.out.bel hB
                  obtain ⟨p0, p1, p2, p3, p4, p5⟩ := pcells hxc
                  clear hxc
                  have HH := Lib.hid (And.intro c3 (And.intro c6 (And.intro c8 c9)))
                  clear c3 c6 c8 c9
                  go_simp
                  exact hK _ _ ⟨_, _, _, _, _, _, _, _, _, _, _, _, _, _, _, _, _, _, _, _, rfl, rfl, hB, (fun _ => rfl), f1, f2, f3, f4, f5, f6, f7, f8, f9, HH.out.1, HH.out.2.1, HH.out.2.2.1, HH.out.2.2.2⟩
                | 1, ho, hli, hd =>
                  obtain rfl := Option.some.inj ho
                  obtain rfl : b1 = false := hli
                  have e3 : b3 = false := by
                    cases hh : b3 with
                    | false => rfl
                    | true => have := c3 hh; cases this
                  subst e3
                  have e6 : b6 = false := by
                    cases hh : b6 with
                    | false => rfl
                    | true => have := (c6 hh).1; cases this
                  subst e6
                  have e8 : b8 = false := by
                    cases hh : b8 with
                    | false => rfl
                    | true => have := c8 hh; cases this
                  subst e8
                  have hb := bel_alloc w' (.cells #[] 3)
                  have hS := hB.size
                  have ho := own_empty (w := w') (base := wq.heap.size) rfl hS
                  have HH := Lib.hid (And.intro c3 (And.intro c6 (And.intro c8 c9)))
                  clear c3 c6 c8 c9
                  go_simp
                  exact hK _ _ ⟨_, _, _, _, _, _, _, _, _, _, _, _, _, _, _, _, _, _, _, _, rfl, rfl, (bel_trans hB hb), f0, (fun _ _ => ho), f2, (fun e => by cases e), f4, (fun e e2 => by obtain ⟨sb, q1, q2, q3, q4⟩ := f5 e e2; exact ⟨sb, q1, q2.bel hb, fun _ _ e3 => by have := q2.lt; have e4 : w'.heap.size = sb := Option.some.inj e3; omega, q4⟩), (fun e => by cases e), f7, (fun e => by cases e), f9, (fun e => by cases e), (fun e => by cases e), (fun e => by cases e), HH.out.2.2.2⟩
                | 2, ho, hli, hd =>
                  obtain rfl := Option.some.inj ho
                  obtain rfl : b2 = false := hli
                  have HH := Lib.hid (And.intro c3 (And.intro c6 (And.intro c8 c9)))
                  clear c3 c6 c8 c9
                  go_simp
                  exact hK _ _ ⟨_, _, _, _, _, _, _, _, _, _, _, _, _, _, _, _, _, _, _, _, rfl, rfl, hB, f0, f1, (fun _ => rfl), f3, f4, f5, f6, f7, f8, f9, HH.out.1, HH.out.2.1, HH.out.2.2.1, HH.out.2.2.2⟩
                | 3, ho, hli, hd =>
                  obtain rfl := Option.some.inj ho
                  obtain rfl : b3 = false := hli
                  obtain rfl : b1 = true := hd ⟨1, .data⟩ (by simp) rfl
                  obtain rfl : b2 = true := hd ⟨2, .data⟩ (by simp) rfl
                  obtain rfl := f2 rfl
                  have e6 : b6 = false := by
                    cases hh : b6 with
                    | false => rfl
                    | true => have := (c6 hh).1; cases this
                  subst e6
                  have e8 : b8 = false := by
                    cases hh : b8 with
                    | false => rfl
                    | true => have := c8 hh; cases this
                  subst e8
                  have hs9 := HS3.out.ext hB
                  have hS := hB.size
                  refine step_appS (by rfl) _ _ (by rfl) (by rfl) (by rfl) (f1 rfl rfl) hs9 (by omega) hS (fun v' w9 q1 q2 q3 => ?_)
                  have hb9 : Below wq.heap.size wq w9 := bel_grown hB q2 hS (fun q hq => ((f1 rfl rfl).2.lt q hq).1)
                  rw [Nat.zero_add, List.nil_append] at q1
                  exact hK _ _ ⟨_, _, _, _, _, _, _, _, _, _, _, _, _, _, _, _, _, _, _, _, rfl, rfl, hb9, f0, (fun _ e => by cases e), f2, (fun _ _ => q1), f4, (fun e e2 => by obtain ⟨sb, z1, z2, z3, z4⟩ := f5 e e2; exact ⟨sb, z1, z2.grown q2 (fun e3 => z3 rfl rfl e3.symm), fun _ e3 => (by cases e3), fun _ e3 => by rcases q3 _ e3 with z | z; exact z3 rfl rfl z; have := z2.lt; omega⟩), (fun e => by cases e), f7, (fun e => by cases e), f9, (fun _ => rfl), (fun e => by cases e), (fun e => by cases e), c9⟩
                | 4, ho, hli, hd =>
                  obtain rfl := Option.some.inj ho
                  obtain rfl : b4 = false := hli
                  have HH := Lib.hid (And.intro c3 (And.intro c6 (And.intro c8 c9)))
                  clear c3 c6 c8 c9
                  go_simp
                  exact hK _ _ ⟨_, _, _, _, _, _, _, _, _, _, _, _, _, _, _, _, _, _, _, _, rfl, rfl, hB, f0, f1, f2, f3, (fun _ => rfl), f5, f6, f7, f8, f9, HH.out.1, HH.out.2.1, HH.out.2.2.1, HH.out.2.2.2⟩
                | 5, ho, hli, hd =>
                  obtain rfl := Option.some.inj ho
                  obtain rfl : b5 = false := hli
                  obtain rfl : b4 = true := hd ⟨4, .data⟩ (by simp) rfl
                  obtain rfl := f4 rfl
                  have e6 : b6 = false := by
                    cases hh : b6 with
                    | false => rfl
                    | true => have := (c6 hh).2; cases this
                  subst e6
                  have e8 : b8 = false := by
                    cases hh : b8 with
                    | false => rfl
                    | true => have := c8 hh; cases this
                  subst e8
                  have hb := bel_alloc w' (.cells #[.int .i64 (b : Int)] 3)
                  have hS := hB.size
                  have hn1 : b1 = true → b3 = false → u48.ownBlock ≠ some w'.heap.size := fun e e2 e3 => by have := ((f1 e e2).2.lt _ e3).2; omega
                  have hn3 : b3 = true → u50.ownBlock ≠ some w'.heap.size := fun e e3 => by have := ((f3 e rfl).2.lt _ e3).2; omega
                  have HH := Lib.hid (And.intro c3 (And.intro c6 (And.intro c8 c9)))
                  clear c3 c6 c8 c9
                  go_simp
                  exact hK _ _ ⟨_, _, _, _, _, _, _, _, _, _, _, _, _, _, _, _, _, _, _, _, rfl, rfl, (bel_trans hB hb), f0, (fun e e2 => (f1 e e2).bel hb), f2, (fun e e2 => (f3 e e2).bel hb), f4, (fun _ _ => ⟨_, rfl, Blk.new _ _ _, hn1, hn3⟩), (fun e => by cases e), f7, (fun e => by cases e), f9, HH.out.1, (fun e => by cases e), (fun e => by cases e), HH.out.2.2.2⟩
                | 6, ho, hli, hd =>
                  obtain rfl := Option.some.inj ho
                  obtain rfl : b6 = false := hli
                  obtain rfl : b3 = true := hd ⟨3, .data⟩ (by simp) rfl
                  obtain rfl : b5 = true := hd ⟨5, .data⟩ (by simp) rfl
                  have e8 : b8 = false := by
                    cases hh : b8 with
                    | false => rfl
                    | true => have := c8 hh; cases this
                  subst e8
                  obtain ⟨sb, rfl, z2, z3, z4⟩ := f5 rfl rfl
                  have hS := hB.size
                  refine step_appS (by rfl) _ _ (by rfl) (by rfl) (by rfl) (f3 rfl rfl) (sl_one' z2 HB64.out) (by omega) hS (fun v' w9 q1 q2 q3 => ?_)
                  have hb9 : Below wq.heap.size wq w9 := bel_grown hB q2 hS (fun q hq => ((f3 rfl rfl).2.lt q hq).1)
                  exact hK _ _ ⟨_, _, _, _, _, _, _, _, _, _, _, _, _, _, _, _, _, _, _, _, rfl, rfl, hb9, f0, (fun _ e => by cases e), f2, (fun _ e => by cases e), f4, (fun _ e => by cases e), (fun _ _ => q1), f7, (fun e => by cases e), f9, c3, (fun _ => ⟨rfl, rfl⟩), (fun e => by cases e), c9⟩
                | 7, ho, hli, hd =>
                  obtain rfl := Option.some.inj ho
                  obtain rfl : b7 = false := hli
                  have HH := Lib.hid (And.intro c3 (And.intro c6 (And.intro c8 c9)))
                  clear c3 c6 c8 c9
                  go_simp
                  exact hK _ _ ⟨_, _, _, _, _, _, _, _, _, _, _, _, _, _, _, _, _, _, _, _, rfl, rfl, hB, f0, f1, f2, f3, f4, f5, f6, (fun _ => rfl), f8, f9, HH.out.1, HH.out.2.1, HH.out.2.2.1, HH.out.2.2.2⟩
                | 8, ho, hli, hd =>
                  obtain rfl := Option.some.inj ho
                  obtain rfl : b8 = false := hli
                  obtain rfl : b0 = true := hd ⟨0, .data⟩ (by simp) rfl
                  obtain rfl : b6 = true := hd ⟨6, .data⟩ (by simp) rfl
                  obtain rfl : b7 = true := hd ⟨7, .data⟩ (by simp) rfl
                  obtain rfl := f0 rfl
                  obtain rfl := f7 rfl
                  have e9 : b9 = false := by
                    cases hh : b9 with
                    | false => rfl
                    | true => have := c9 hh; cases this
                  subst e9
                  obtain ⟨nA9, nc9, rfl, hs9⟩ := (f6 rfl rfl).sl (by omega) HRG9.out
                  have cI := IH.out nA9 (l + 1) nc9 (bg ++ [(b : Int)]) w' (HP.out.ext (bel_trans HBW2.out hB)) hs9 HF9.out (by simp) HF1.out HRG2.out
                  have HH := Lib.hid (And.intro c3 (And.intro c6 (And.intro c8 c9)))
                  clear c3 c6 c8 c9
                  go_simp
                  refine cI.mono ?_
                  rintro e v ⟨A', l', c', rfl, hs', hb⟩
                  exact hK _ _ ⟨_, _, _, _, _, _, _, _, _, _, _, _, _, _, _, _, _, _, _, _, rfl, rfl, (bel_trans hB hb), f0, (fun e e2 => (f1 e e2).bel hb), f2, (fun e e2 => (f3 e e2).bel hb), f4, (fun e e2 => by obtain ⟨sb, q1, q2, q3, q4⟩ := f5 e e2; exact ⟨sb, q1, q2.bel hb, q3, q4⟩), (fun _ e => by cases e), f7, (fun _ => ⟨_, _, _, rfl, hs'⟩), (fun e => by cases e), HH.out.1, HH.out.2.1, (fun _ => rfl), (fun e => by cases e)⟩
                | 9, ho, hli, hd =>
                  obtain rfl := Option.some.inj ho
                  obtain rfl : b9 = false := hli
                  obtain rfl : b8 = true := hd ⟨8, .data⟩ (by simp) rfl
                  obtain ⟨A', l', c', rfl, hs'⟩ := f8 rfl
                  have HH := Lib.hid (And.intro c3 (And.intro c6 (And.intro c8 c9)))
                  clear c3 c6 c8 c9
                  go_simp
                  exact hK _ _ ⟨_, _, _, _, _, _, _, _, _, _, _, _, _, _, _, _, _, _, _, _, rfl, rfl, hB, f0, f1, f2, f3, f4, f5, f6, f7, (fun _ => ⟨_, _, _, rfl, hs'⟩), (fun _ => rfl), HH.out.1, HH.out.2.1, HH.out.2.2.1, (fun _ => rfl)⟩
                | i + 10, ho, hli, hd => simp at ho
              rintro listed a' w' ⟨b0, b1, b2, b3, b4, b5, b6, b7, b8, b9, u47, u48, u49, u50, u51, u52, u53, u54, u55, u9, rfl, rfl, hB, f0, f1, f2, f3, f4, f5, f6, f7, f8, f9, c3, c6, c8, c9⟩ hr
              obtain rfl : b0 = true := ready_nil hr (i := 0) rfl (by first | (simp; done) | (simp; intro q; exact absurd q (by decide)))
              obtain rfl : b1 = true := ready_nil hr (i := 1) rfl (by first | (simp; done) | (simp; intro q; exact absurd q (by decide)))
              obtain rfl : b2 = true := ready_nil hr (i := 2) rfl (by first | (simp; done) | (simp; intro q; exact absurd q (by decide)))
              obtain rfl : b3 = true := ready_nil hr (i := 3) rfl (by first | (simp; done) | (simp; intro q; exact absurd q (by decide)))
              obtain rfl : b4 = true := ready_nil hr (i := 4) rfl (by first | (simp; done) | (simp; intro q; exact absurd q (by decide)))
              obtain rfl : b5 = true := ready_nil hr (i := 5) rfl (by first | (simp; done) | (simp; intro q; exact absurd q (by decide)))
              obtain rfl : b6 = true := ready_nil hr (i := 6) rfl (by first | (simp; done) | (simp; intro q; exact absurd q (by decide)))
              obtain rfl : b7 = true := ready_nil hr (i := 7) rfl (by first | (simp; done) | (simp; intro q; exact absurd q (by decide)))
              obtain rfl : b8 = true := ready_nil hr (i := 8) rfl (by first | (simp; done) | (simp; intro q; exact absurd q (by decide)))
              obtain rfl : b9 = true := ready_nil hr (i := 9) rfl (by first | (simp; done) | (simp; intro q; exact absurd q (by decide)))
              clear hr
              obtain rfl := f0 rfl
              obtain rfl := f2 rfl
              obtain rfl := f4 rfl
              obtain rfl := f7 rfl
              obtain ⟨A', l', c', rfl, hs'⟩ := f8 rfl
              obtain rfl := f9 rfl
              clear f1 f3 f5 f6 c3 c6 c8 c9 f0 f2 f4 f7 f8 f9
              have hF : (if extC p bg k then extF p len f (bg ++ [(hn : Int) + 1 + (k : Int)]) else []) = extF p len f (bg ++ [(b : Int)]) := by rw [HCT.out, if_pos rfl, HBE2.out]
              have hsl' := hs'.len
              have hB9 := bel_trans HB2.out hB
              have hbw9 := bel_trans HBW2.out hB
              by_cases hl0 : l' = 0
              · have hnil : extF p len f (bg ++ [(b : Int)]) = [] := List.eq_nil_of_length_eq_zero (by rw [← hsl', hl0])
                have hn9 : ∀ j < k + 1, (if extC p bg j then extF p len f (bg ++ [(hn : Int) + 1 + (j : Int)]) else []) = [] := fun j hj => by
                  by_cases e : j = k
                  · subst e; rw [hF, hnil]
                  · exact HNO.out j (by omega)
                subst hl0
                have HS' := Lib.hid hs'; clear hs'
                have HF := Lib.hid hF; clear hF
                have HSL' := Lib.hid hsl'; clear hsl'
                have HB9 := Lib.hid hB9; clear hB9
                have HBW9 := Lib.hid hbw9; clear hbw9
                have HNIL := Lib.hid hnil; clear hnil
                have HN9 := Lib.hid hn9; clear hn9
                go_wp2_with fail
                go_roundw
                case rel => exact ⟨k + 1, by omega, by have := HBE2.out; first | (go_num; done) | (congr 1; omega) | (simp; omega), HB9.out, HN9.out⟩
                case measure => simp [intOf]; omega
              · have hl1 : (0 : Int) < (l' : Int) := by omega
                have hne' : extF p len f (bg ++ [(b : Int)]) ≠ [] := fun e => by rw [e] at hsl'; simp at hsl'; omega
                have hres : extF p len (f + 1) bg = extF p len f (bg ++ [(b : Int)]) := by
                  rw [HD2.out, firstN_hit (F := fun k => if extC p bg k then extF p len f (bg ++ [(hn : Int) + 1 + (k : Int)]) else []) HNO.out (by rw [hF]; exact hne') hlt]
                  exact hF
                rw [← hres] at hs'
                have HS' := Lib.hid hs'; clear hs'
                have HF := Lib.hid hF; clear hF
                have HSL' := Lib.hid hsl'; clear hsl'
                have HB9 := Lib.hid hB9; clear hB9
                have HBW9 := Lib.hid hbw9; clear hbw9
                have HNE' := Lib.hid hne'; clear hne'
                have HRES := Lib.hid hres; clear hres
                go_wp2_with fail
                go_ret
                exact ⟨_, _, _, rfl, HS'.out, HBW9.out⟩
        · have hke : k = N - hn := by omega
          have b1 : ¬ (b : Int) ≤ (N : Int) := by omega
          have hd3 : extF p len (f + 1) bg = [] := by rw [HD2.out]; exact firstN_none (by rw [← hke]; exact hno)
          have HB := Lib.hid hB; clear hB
          have HNO := Lib.hid hno; clear hno
          have HBW := Lib.hid hbw; clear hbw
          have HD3 := Lib.hid hd3; clear hd3
          have HBE := Lib.hid hbe; clear hbe
          have HBE2 := Lib.hid hbe2; clear hbe2
          go_wp2_with fail
          go_ret
          exact ⟨_, _, _, rfl, by rw [HD3.out]; exact SlIs.nil _ _, HBW.out⟩
set_option maxRecDepth 100000 in
set_option maxHeartbeats 4000000 in
theorem refCycle_any (p : GProg) (nA : Option Addr) (nl nc : Nat) (sA : Option Addr) (sl sc : Nat) (rA : Option Addr) (rl rc : Nat) (mA : Option Addr) (ml mc : Nat) (w : World) (hp : ProgIn w p nA nl nc sA sl sc rA rl rc mA ml mc) (hv : validE p = 0) (h12 : p.n ≤ 12) :
    Calls Try.prog 25 #[.agg #[.int .i64 p.n, .slice nA nl nc, .slice sA sl sc, .slice rA rl rc, .slice mA ml mc]] w fun e w' => ∃ A l c, e = .returned (.slice A l c) ∧ SlIs intR w' A l c (cycL p) ∧ Below w.heap.size w w' := by
  have hi := validE_is hv
  have h0 : 0 ≤ p.n := (namedB_n hi.named).1
  have hcr := cyc_ref hi
  obtain ⟨N, hN⟩ : ∃ N : Nat, N = p.n.toNat := ⟨_, rfl⟩
  have hNn : p.n = (N : Int) := by omega
  have hN12 : N ≤ 12 := by omega
  have hdef : cycL p = firstN (fun k => firstN (fun a => extF p (k + 1) (k + 1) [(a : Int) + 1]) N) N := by rw [hcr, hN]; rfl
  have cX := fun (len a : Nat) W (A : Option Addr) (c : Nat) (hb : Below w.heap.size w W) (hl : len ≤ 12) (h1 : 1 ≤ len) (ha : a < N) (hs : SlIs intR W A 1 c [(a : Int) + 1]) => refExt_any p nA nl nc sA sl sc rA rl rc mA ml mc len N hNn hN12 hl len A 1 c [(a : Int) + 1] W (hp.ext hb) hs (by simp; omega) (by simp) h1 (fun b hb => by
    have : b = (a : Int) + 1 := by simpa using hb
    omega)
  have hx1 := Blk.new w 27 #[.int .i64 p.n, .slice nA nl nc, .slice sA sl sc, .slice rA rl rc, .slice mA ml mc]
  have hb1 := bel_alloc w (.cells #[.int .i64 p.n, .slice nA nl nc, .slice sA sl sc, .slice rA rl rc, .slice mA ml mc] 27)
  rw [hNn] at hx1 hb1 cX
  rw [hNn]
  have HP := Lib.hid hp; clear hp
  have HN := Lib.hid hN; clear hN
  have HX1 := Lib.hid hx1; clear hx1
  have HB1 := Lib.hid hb1; clear hb1
  have CX := Lib.hid cX; clear cX
  have HCR := Lib.hid hcr; clear hcr
  have HDEF := Lib.hid hdef; clear hdef
  have HNN := Lib.hid hNn; clear hNn
  go_enter Try.func25, Try.ntmps25
  go_wp2_with fail
  generalize w.alloc (.cells #[.int .i64 (N : Int), .slice nA nl nc, .slice sA sl sc, .slice rA rl rc, .slice mA ml mc] 27) = w1 at *
  go_loopw [3] (fun t wr => ∃ k : Nat, k ≤ N ∧ t = .int .i64 ((k : Int) + 1) ∧ Below w1.heap.size w1 wr ∧ ∀ j < k, firstN (fun a => extF p (j + 1) (j + 1) [(a : Int) + 1]) N = []) (fun t _ => N + 1 - (intOf t).toNat)
  case atStart => exact ⟨0, Nat.zero_le _, rfl, Below.refl _ _, fun j hj => absurd hj (by omega)⟩
  case round =>
    obtain ⟨k, hk, rfl, hB, hno⟩ := hrel
    obtain ⟨wa, rfl⟩ : ∃ wa : World, wa = wr := ⟨_, rfl⟩
    have k0 : (0 : Int) ≤ (k : Int) + 1 := by omega
    have m0 : wa.cell? ⟨w.heap.size, 0, none⟩ = some (.int .i64 (N : Int)) := (HX1.out.bel hB).cell 0
    by_cases hlt : k < N
    · have k1 : (k : Int) + 1 ≤ (N : Int) := by omega
      have HB := Lib.hid hB; clear hB
      have HNO := Lib.hid hno; clear hno
      go_wp2_with fail
      clear m0
      go_loopw [4] (fun t wr => ∃ a : Nat, a ≤ N ∧ t = .int .i64 ((a : Int) + 1) ∧ Below w1.heap.size w1 wr ∧ ∀ j < a, extF p (k + 1) (k + 1) [(j : Int) + 1] = []) (fun t _ => N + 1 - (intOf t).toNat)
      case atStart => exact ⟨0, Nat.zero_le _, rfl, HB.out, fun j hj => absurd hj (by omega)⟩
      case round =>
        obtain ⟨a, ha, rfl, hB2, hno2⟩ := hrel
        obtain ⟨wb, rfl⟩ : ∃ wb : World, wb = wr := ⟨_, rfl⟩
        have a0 : (0 : Int) ≤ (a : Int) + 1 := by omega
        have hxb := HX1.out.bel hB2
        by_cases hlt2 : a < N
        · have a1 : (a : Int) + 1 ≤ (N : Int) := by omega
          have hbA := bel_alloc wb (.cells #[.int .i64 ((a : Int) + 1)] 3)
          have hbw := bel_trans (bel_trans HB1.out hB2) hbA
          have hsA := sl_one' (Blk.new wb 3 #[.int .i64 ((a : Int) + 1)]) (show I64 ((a : Int) + 1) by unfold I64; omega)
          have cXx := CX.out (k + 1) a _ _ _ hbw (by omega) (by omega) hlt2 hsA
          rw [show (((k + 1 : Nat)) : Int) = (k : Int) + 1 by omega] at cXx
          have hB3 := bel_trans hB2 hbA
          obtain ⟨p0, p1, p2, p3, p4, p5⟩ := pcells hxb
          have HXB := Lib.hid hxb; clear hxb
          have HB2 := Lib.hid hB2; clear hB2
          have HNO2 := Lib.hid hno2; clear hno2
          have HBA := Lib.hid hbA; clear hbA
          have HBW := Lib.hid hbw; clear hbw
          have HSA := Lib.hid hsA; clear hsA
          have CXX := Lib.hid cXx; clear cXx
          have HB3 := Lib.hid hB3; clear hB3
          go_wp2_with fail
          go_fit CXX.out; rintro e wc ⟨A', l', c', rfl, hs', hb⟩
          clear p0 p1 p2 p3 p4 p5
          have hB4 := bel_trans HB3.out hb
          have hbw4 := bel_trans HBW.out hb
          have hsl' := hs'.len
          clear hb
          by_cases hl0 : l' = 0
          · have hnil : extF p (k + 1) (k + 1) [(a : Int) + 1] = [] := List.eq_nil_of_length_eq_zero (by rw [← hsl', hl0])
            have hn9 : ∀ j < a + 1, extF p (k + 1) (k + 1) [(j : Int) + 1] = [] := fun j hj => by
              by_cases e : j = a
              · subst e; exact hnil
              · exact HNO2.out j (by omega)
            subst hl0
            have HS' := Lib.hid hs'; clear hs'
            have HSL' := Lib.hid hsl'; clear hsl'
            have HB4 := Lib.hid hB4; clear hB4
            have HBW4 := Lib.hid hbw4; clear hbw4
            have HNIL := Lib.hid hnil; clear hnil
            have HN9 := Lib.hid hn9; clear hn9
            go_wp2_with fail
            go_roundw
            case rel => exact ⟨a + 1, by omega, by go_num, HB4.out, HN9.out⟩
            case measure => simp [intOf]; omega
          · have hl1 : (0 : Int) < (l' : Int) := by omega
            have hne' : extF p (k + 1) (k + 1) [(a : Int) + 1] ≠ [] := fun e => by rw [e] at hsl'; simp at hsl'; omega
            have hin : firstN (fun a => extF p (k + 1) (k + 1) [(a : Int) + 1]) N = extF p (k + 1) (k + 1) [(a : Int) + 1] := firstN_hit (F := fun a => extF p (k + 1) (k + 1) [(a : Int) + 1]) HNO2.out hne' hlt2
            have hres : cycL p = extF p (k + 1) (k + 1) [(a : Int) + 1] := by
              rw [HDEF.out, firstN_hit (F := fun k => firstN (fun a => extF p (k + 1) (k + 1) [(a : Int) + 1]) N) HNO.out (by rw [hin]; exact hne') hlt, hin]
            rw [← hres] at hs'
            have HS' := Lib.hid hs'; clear hs'
            have HSL' := Lib.hid hsl'; clear hsl'
            have HB4 := Lib.hid hB4; clear hB4
            have HBW4 := Lib.hid hbw4; clear hbw4
            have HNE' := Lib.hid hne'; clear hne'
            have HIN := Lib.hid hin; clear hin
            have HRES := Lib.hid hres; clear hres
            go_wp2_with fail
            go_ret
            exact ⟨_, _, _, rfl, HS'.out, HBW4.out⟩
        · have hae : N = a := by omega
          subst hae
          have a1 : ¬ (N : Int) + 1 ≤ (N : Int) := by omega
          have m0 : wb.cell? ⟨w.heap.size, 0, none⟩ = some (.int .i64 (N : Int)) := hxb.cell 0
          have hn9 : ∀ j < k + 1, firstN (fun a => extF p (j + 1) (j + 1) [(a : Int) + 1]) N = [] := fun j hj => by
            by_cases e : j = k
            · subst e; exact firstN_none hno2
            · exact HNO.out j (by omega)
          have HB2 := Lib.hid hB2; clear hB2
          have HNO2 := Lib.hid hno2; clear hno2
          have HN9 := Lib.hid hn9; clear hn9
          have HXB := Lib.hid hxb; clear hxb
          go_wp2_with fail
          go_roundw
          case rel => exact ⟨k + 1, by omega, by go_num, HB2.out, HN9.out⟩
          case measure => simp [intOf]; omega
    · have hke : N = k := by omega
      subst hke
      have k1 : ¬ (N : Int) + 1 ≤ (N : Int) := by omega
      have hnil : cycL p = [] := by rw [HDEF.out]; exact firstN_none hno
      have hbz := bel_trans HB1.out hB
      have HB := Lib.hid hB; clear hB
      have HNO := Lib.hid hno; clear hno
      have HNIL := Lib.hid hnil; clear hnil
      have HBZ := Lib.hid hbz; clear hbz
      go_wp2_with fail
      go_ret
      exact ⟨_, _, _, rfl, by rw [HNIL.out]; exact SlIs.nil _ _, HBZ.out⟩
end Go.Proofs.Ytbfbkpoakmnlpaa

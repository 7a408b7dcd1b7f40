/- The law StableChoice: it answers true and changes nothing that was there. -/
import Derived.Test.YtfopcpmckplemaaLb2
namespace Go.Proofs.Ytfopcpmckplemaa
open Go.RowKit

theorem ruleE_head {hd : List Int} {n : Int} (h0 : 0 ≤ n) (h1 : n ≤ 4000) (hi : incB n hd = true) (hne : hd ≠ []) : ruleE (choiceR hd) n = 0 ∧ ruleE (neverR hd) n = 0 := by
  have hl : hd.length ≠ 0 := by simpa using hne
  have hz : ordB n [] = true := rfl
  constructor
  · unfold ruleE choiceR
    simp only [hi, hz]
    rw [if_neg (by omega), if_neg (by simp [hl]), if_neg (by simp), if_neg (by simp)]
  · unfold ruleE neverR
    simp only [hi, hz]
    rw [if_neg (by omega), if_neg (by simp [hl]), if_neg (by simp), if_neg (by simp [wtB, wtGo])]
theorem bits_all (k : Nat) (hk : k < 15) : bitB 32767 k = true := by
  match k, hk with
  | 0, _ => rfl
  | 1, _ => rfl
  | 2, _ => rfl
  | 3, _ => rfl
  | 4, _ => rfl
  | 5, _ => rfl
  | 6, _ => rfl
  | 7, _ => rfl
  | 8, _ => rfl
  | 9, _ => rfl
  | 10, _ => rfl
  | 11, _ => rfl
  | 12, _ => rfl
  | 13, _ => rfl
  | 14, _ => rfl
theorem subset_all {n : Int} (hn : n ≤ 6) {x : Int} (h0 : 1 ≤ x) (h1 : x ≤ n) : x ∈ subsetL n 32767 := by
  unfold subsetL subL
  refine List.mem_map.2 ⟨(x - 1).toNat, List.mem_filter.2 ⟨List.mem_range.2 (by omega), bits_all _ (by omega)⟩, by omega⟩
structure ChoLaw (p : GProg) (hd m : List Int) (all : List (List Int)) : Prop where
  v : validE p = 0
  s : SmallP p
  c : checkE p m = 0
  qv : validE { p with rules := p.rules ++ [choiceR hd] } = 0
  qs : SmallP { p with rules := p.rules ++ [choiceR hd] }
  qc : checkE { p with rules := p.rules ++ [choiceR hd] } m = 0
  qi : isC { p with rules := p.rules ++ [choiceR hd] } m (disB { p with rules := p.rules ++ [choiceR hd] }) = modelB p m
  sv : validE { p with rules := p.rules ++ [neverR hd] } = 0
  ss : SmallP { p with rules := p.rules ++ [neverR hd] }
  all : allL { p with rules := p.rules ++ [neverR hd] } = all
  few : p.rules.length ≤ 16
  ml : m.length ≤ 12
theorem cho_law {p : GProg} (h : smallB p = true) (h0 : p.n ≠ 0) (bits : Int) : ChoLaw p (subsetL p.n 32767) (subsetL p.n bits) (allL p) := by
  obtain ⟨h1, h2, h3⟩ := small_is h
  have hn := valid_n h3
  have hih := subset_inc p.n 32767 hn
  have him := subset_inc p.n bits hn
  have hne : subsetL p.n 32767 ≠ [] := fun e => by
    have := subset_all h2 (x := 1) (by omega) (by omega)
    rw [e] at this; simp at this
  obtain ⟨r1, r2⟩ := ruleE_head hn (by omega) hih hne
  obtain ⟨a1, a2⟩ := small_snoc h r1
  obtain ⟨b1, b2⟩ := small_snoc h r2
  refine ⟨h3, small_P h, check_of h3 him, a1, a2, check_of a1 him, ?_, b1, b2, never_all p _, (few_head h1).1, ?_⟩
  · rw [isC_is a2.is]
    exact choice_is (validE_is h3) him hn (fun a ha => by have := inc_mem him a ha; exact subset_all h2 (by omega) (by omega)) a2.is
  · have := inc_lenN hn him; omega

/-- What holds while two boxes are made and filled. -/
structure TwoJ (X : World) (pc : Array Value) (W : World) (b0 b1 b2 b3 b4 b5 : Bool) (u33 u34 u7 u8 : Value) : Prop where
  f0 : b0 = true → u33 = .agg pc
  f1 : b1 = true → u34 = .agg pc
  d4 : b4 = true → b2 = true
  d5 : b5 = true → b3 = true
  bel : Below X.heap.size X W
  a7 : b2 = true → ∃ g, u7 = .pointer (some ⟨g, 0, none⟩) ∧ X.heap.size ≤ g ∧ (b4 = false → Blk W g 27 #[.int .i64 0, .slice none 0 0, .slice none 0 0, .slice none 0 0, .slice none 0 0]) ∧ (b4 = true → Blk W g 27 pc)
  a8 : b3 = true → ∃ g, u8 = .pointer (some ⟨g, 0, none⟩) ∧ X.heap.size ≤ g ∧ (b5 = false → Blk W g 27 #[.int .i64 0, .slice none 0 0, .slice none 0 0, .slice none 0 0, .slice none 0 0]) ∧ (b5 = true → Blk W g 27 pc)
  ne : b2 = true → b3 = true → u7 ≠ u8
section
variable {X W : World} {pc : Array Value} {b0 b1 b2 b3 b4 b5 : Bool} {u33 u34 u7 u8 : Value}
theorem TwoJ.start (h : Below X.heap.size X W) : TwoJ X pc W false false false false false false u33 u34 u7 u8 :=
  ⟨by simp, by simp, by simp, by simp, h, by simp, by simp, by simp⟩
theorem TwoJ.op2 (h : TwoJ X pc W b0 b1 false b3 b4 b5 u33 u34 u7 u8) : TwoJ X pc (W.alloc (.cells #[.int .i64 0, .slice none 0 0, .slice none 0 0, .slice none 0 0, .slice none 0 0] 27)) b0 b1 true b3 b4 b5 u33 u34 (.pointer (some ⟨W.heap.size, 0, none⟩)) u8 := by
  have h4 : b4 = false := by cases b4 with | false => rfl | true => have := h.d4 rfl; cases this
  subst h4
  refine { h with d4 := by simp, bel := h.bel.alloc h.bel.size _, a7 := fun _ => ⟨_, rfl, h.bel.size, fun _ => Blk.new _ _ _, by simp⟩, a8 := fun e => ?_, ne := fun _ e => ?_ }
  · obtain ⟨g, e1, e2, e3, e4⟩ := h.a8 e
    exact ⟨g, e1, e2, fun q => (e3 q).alloc _, fun q => (e4 q).alloc _⟩
  · obtain ⟨g, rfl, e2, e3, e4⟩ := h.a8 e
    have hg : g < W.heap.size := by cases b5 with | false => exact (e3 rfl).lt | true => exact (e4 rfl).lt
    intro e5
    injection e5 with e5; injection e5 with e5; injection e5 with e5; omega
theorem TwoJ.op3 (h : TwoJ X pc W b0 b1 b2 false b4 b5 u33 u34 u7 u8) : TwoJ X pc (W.alloc (.cells #[.int .i64 0, .slice none 0 0, .slice none 0 0, .slice none 0 0, .slice none 0 0] 27)) b0 b1 b2 true b4 b5 u33 u34 u7 (.pointer (some ⟨W.heap.size, 0, none⟩)) := by
  have h5 : b5 = false := by cases b5 with | false => rfl | true => have := h.d5 rfl; cases this
  subst h5
  refine { h with d5 := by simp, bel := h.bel.alloc h.bel.size _, a8 := fun _ => ⟨_, rfl, h.bel.size, fun _ => Blk.new _ _ _, by simp⟩, a7 := fun e => ?_, ne := fun e _ => ?_ }
  · obtain ⟨g, e1, e2, e3, e4⟩ := h.a7 e
    exact ⟨g, e1, e2, fun q => (e3 q).alloc _, fun q => (e4 q).alloc _⟩
  · obtain ⟨g, rfl, e2, e3, e4⟩ := h.a7 e
    have hg : g < W.heap.size := by cases b4 with | false => exact (e3 rfl).lt | true => exact (e4 rfl).lt
    intro e5
    injection e5 with e5; injection e5 with e5; injection e5 with e5; omega
theorem below_row {X W : World} (h : Below X.heap.size X W) {g : Nat} (hg : X.heap.size ≤ g) (cs : Array Value) : Below X.heap.size X (W.setRow g cs) :=
  Kept.below h ((Kept.refl [g] W).row (.inl (by simp)) cs) h.size (by simpa using hg)
theorem TwoJ.op4 (h : TwoJ X pc W b0 b1 true b3 false b5 u33 u34 u7 u8) : ∃ g, u7 = .pointer (some ⟨g, 0, none⟩) ∧ Blk W g 27 #[.int .i64 0, .slice none 0 0, .slice none 0 0, .slice none 0 0, .slice none 0 0] ∧ TwoJ X pc (W.setRow g pc) b0 b1 true b3 true b5 u33 u34 u7 u8 := by
  obtain ⟨g, rfl, e2, e3, e4⟩ := h.a7 rfl
  refine ⟨g, rfl, e3 rfl, { h with d4 := fun _ => rfl, bel := below_row h.bel e2 _, a7 := fun _ => ⟨g, rfl, e2, by simp, fun _ => (e3 rfl).row pc⟩, a8 := fun e => ?_ }⟩
  obtain ⟨g2, rfl, k2, k3, k4⟩ := h.a8 e
  have hne : g2 ≠ g := fun e5 => h.ne rfl e (by rw [e5])
  have hk : Kept [g] W (W.setRow g pc) := (Kept.refl _ _).row (.inl (by simp)) _
  exact ⟨g2, rfl, k2, fun q => hk.blk (k3 q) (by simpa using hne), fun q => hk.blk (k4 q) (by simpa using hne)⟩
theorem TwoJ.op5 (h : TwoJ X pc W b0 b1 b2 true b4 false u33 u34 u7 u8) : ∃ g, u8 = .pointer (some ⟨g, 0, none⟩) ∧ Blk W g 27 #[.int .i64 0, .slice none 0 0, .slice none 0 0, .slice none 0 0, .slice none 0 0] ∧ TwoJ X pc (W.setRow g pc) b0 b1 b2 true b4 true u33 u34 u7 u8 := by
  obtain ⟨g, rfl, e2, e3, e4⟩ := h.a8 rfl
  refine ⟨g, rfl, e3 rfl, { h with d5 := fun _ => rfl, bel := below_row h.bel e2 _, a8 := fun _ => ⟨g, rfl, e2, by simp, fun _ => (e3 rfl).row pc⟩, a7 := fun e => ?_ }⟩
  obtain ⟨g2, rfl, k2, k3, k4⟩ := h.a7 e
  have hne : g2 ≠ g := fun e5 => h.ne e rfl (by rw [e5])
  have hk : Kept [g] W (W.setRow g pc) := (Kept.refl _ _).row (.inl (by simp)) _
  exact ⟨g2, rfl, k2, fun q => hk.blk (k3 q) (by simpa using hne), fun q => hk.blk (k4 q) (by simpa using hne)⟩
end

set_option maxRecDepth 100000 in
set_option maxHeartbeats 4000000 in
theorem stableChoice_law (p : GProg) (nA : Option Addr) (nl nc : Nat) (sA : Option Addr) (sl sc : Nat) (rA : Option Addr) (rl rc : Nat) (mA : Option Addr) (ml mc : Nat) (b : Int) (w : World) (hp : ProgIn w p nA nl nc sA sl sc rA rl rc mA ml mc) (hb0 : 0 ≤ b) (hb1 : b ≤ 65535) :
    Calls Try.prog 5 #[.agg #[.int .i64 p.n, .slice nA nl nc, .slice sA sl sc, .slice rA rl rc, .slice mA ml mc], .int .u16 b] w fun e w' => e = .returned (.bool true) ∧ Below w.heap.size w w' := by
  have cS := fun W (hb : Below w.heap.size w W) => small_any p nA nl nc sA sl sc rA rl rc mA ml mc W (hp.ext hb)
  have cA := awake20_any
  cases hsm : smallB p with
  | false =>
    rw [hsm] at cS
    have HP := Lib.hid hp; clear hp
    have CS := Lib.hid cS; clear cS
    have CA := Lib.hid cA; clear cA
    have HSM := Lib.hid hsm; clear hsm
    go_enter Try.func5, Try.ntmps5
    go_wp2_with fail
    go_fit (CS.out _ (bel_alloc _ _)); rintro e w1 ⟨rfl, hb⟩
    have HBW := Lib.hid (bel_trans (bel_alloc _ _) hb)
    clear hb
    go_wp2_with fail
    go_fit (CA.out _); rintro e w2 ⟨rfl, hb⟩
    have HBZ := Lib.hid (bel_trans HBW.out hb)
    clear hb
    go_wp2_with fail
    go_ret
    exact ⟨rfl, HBZ.out⟩
  | true =>
    rw [hsm] at cS
    have hn6 := (small_is hsm).2.1
    have hn0 := valid_n (small_is hsm).2.2
    by_cases h0 : p.n = 0
    · have z0 : (p.n == 0) = true := by simpa using h0
      have HP := Lib.hid hp; clear hp
      have CS := Lib.hid cS; clear cS
      have CA := Lib.hid cA; clear cA
      have HSM := Lib.hid hsm; clear hsm
      have H0 := Lib.hid h0; clear h0
      go_enter Try.func5, Try.ntmps5
      go_wp2_with fail
      go_fit (CS.out _ (bel_alloc _ _)); rintro e w1 ⟨rfl, hb⟩
      have HX := Lib.hid ((Blk.new w 27 #[.int .i64 p.n, .slice nA nl nc, .slice sA sl sc, .slice rA rl rc, .slice mA ml mc]).bel hb)
      have HBW := Lib.hid (bel_trans (bel_alloc _ _) hb)
      clear hb
      obtain ⟨p0, p1, p2, p3, p4, p5⟩ := pcells HX.out
      go_wp2_with fail
      go_fit (CA.out _); rintro e w2 ⟨rfl, hb⟩
      have HBZ := Lib.hid (bel_trans HBW.out hb)
      clear hb
      go_wp2_with fail
      go_ret
      exact ⟨rfl, HBZ.out⟩
    · have z0 : (p.n == 0) = false := by simpa using h0
      have L := Lib.hid (cho_law hsm h0 b)
      have cSh := fun W => subset_any p.n 32767 W (by omega) hn0 (by omega) (by omega)
      have cSm := fun W => subset_any p.n b W (by omega) hn0 hb0 hb1
      generalize subsetL p.n 32767 = hd at *
      generalize subsetL p.n b = m at *
      generalize hall2 : allL p = all at *
      have HALL := Lib.hid hall2
      clear hall2
      have HP := Lib.hid hp; clear hp
      have CS := Lib.hid cS; clear cS
      have CA := Lib.hid cA; clear cA
      have HSM := Lib.hid hsm; clear hsm
      have H0 := Lib.hid h0; clear h0
      have CSH := Lib.hid cSh; clear cSh
      have CSM := Lib.hid cSm; clear cSm
      go_enter Try.func5, Try.ntmps5
      go_wp2_with fail
      go_fit (CS.out _ (bel_alloc _ _)); rintro e w1 ⟨rfl, hb⟩
      have HX := Lib.hid ((Blk.new w 27 #[.int .i64 p.n, .slice nA nl nc, .slice sA sl sc, .slice rA rl rc, .slice mA ml mc]).bel hb)
      have HBW := Lib.hid (bel_trans (bel_alloc _ _) hb)
      clear hb
      obtain ⟨p0, p1, p2, p3, p4, p5⟩ := pcells HX.out
      go_wp2_with fail
      go_fit (CSH.out _); rintro e w2 ⟨hA, hl, hc, rfl, hh, hb⟩
      replace HX := Lib.hid (HX.out.bel hb)
      replace HBW := Lib.hid (bel_trans HBW.out hb)
      clear hb
      clear p0 p1 p2 p3 p4 p5
      obtain ⟨p0, p1, p2, p3, p4, p5⟩ := pcells HX.out
      have HH := Lib.hid hh; clear hh
      go_wp2_with fail
      go_fit (CSM.out _); rintro e w3 ⟨xA, xl, xc, rfl, hm, hb⟩
      replace HX := Lib.hid (HX.out.bel hb)
      replace HBW := Lib.hid (bel_trans HBW.out hb)
      replace HH := Lib.hid (HH.out.ext hb)
      clear hb
      clear p0 p1 p2 p3 p4 p5
      obtain ⟨p0, p1, p2, p3, p4, p5⟩ := pcells HX.out
      have HM := Lib.hid hm; clear hm
      go_wp2_with fail
      refine wp_region_inv (fun listed a' w' => ∃ (b0 b1 b2 b3 b4 b5 : Bool) (u33 u34 u7 u8 : Value), listed = #[b0, b1, b2, b3, b4, b5] ∧ a' = { tmps := #[.agg #[.int .i64 p.n, .slice nA nl nc, .slice sA sl sc, .slice rA rl rc, .slice mA ml mc], .int .u16 b, .pointer (some ⟨w.heap.size, 0, none⟩), undef, .bool false, .slice hA hl hc, .slice xA xl xc, u7, u8, undef, undef, undef, undef, undef, undef, undef, undef, .agg #[.int .i64 p.n, .slice nA nl nc, .slice sA sl sc, .slice rA rl rc, .slice mA ml mc], .bool true, .bool false, .bool false, .pointer (some ⟨w.heap.size, 0, none⟩), .int .i64 p.n, .bool false, .bool false, undef, .pointer (some ⟨w.heap.size, 0, none⟩), .int .i64 p.n, .slice hA hl hc, .pointer (some ⟨w.heap.size, 0, none⟩), .int .i64 p.n, .int .u16 b, .slice xA xl xc, u33, u34, undef, undef, undef, undef, undef, undef, undef, undef, undef, undef, undef, undef, undef, undef, undef, undef, undef, undef, undef, undef, undef, undef, undef, undef, undef, undef, undef, undef, undef, undef, undef, undef, undef, undef, undef, undef, undef, undef, undef, undef, undef, undef, undef, undef, undef, undef, undef, undef, undef, undef, undef, undef, undef, undef, undef, undef, undef, undef, undef, undef, undef], defers := [] } ∧ TwoJ w3 #[.int .i64 p.n, .slice nA nl nc, .slice sA sl sc, .slice rA rl rc, .slice mA ml mc] w' b0 b1 b2 b3 b4 b5 u33 u34 u7 u8) (by kernel_rfl) ?start ?step ?fin
      case start => exact ⟨false, false, false, false, false, false, _, _, _, _, rfl, rfl, TwoJ.start (Below.refl _ _).drew⟩
      case step =>
        rintro listed a' w' i o ⟨b0, b1, b2, b3, b4, b5, u33, u34, u7, u8, rfl, rfl, h⟩ ho hl hd K hK
        match i, ho, hl, hd with
        | 0, ho, hl, hd =>
          obtain rfl := Option.some.inj ho
          obtain rfl : b0 = false := hl
          have m0 := (h.bel.cell (World.block_lt_of_cell? _ _ p0)).trans p0
          have m1 := (h.bel.cell (World.block_lt_of_cell? _ _ p1)).trans p1
          have m2 := (h.bel.cell (World.block_lt_of_cell? _ _ p2)).trans p2
          have m3 := (h.bel.cell (World.block_lt_of_cell? _ _ p3)).trans p3
          have m4 := (h.bel.cell (World.block_lt_of_cell? _ _ p4)).trans p4
          go_simp
          exact hK _ _ ⟨_, _, _, _, _, _, _, _, _, _, rfl, rfl, { h with f0 := fun _ => rfl }⟩
        | 1, ho, hl, hd =>
          obtain rfl := Option.some.inj ho
          obtain rfl : b1 = false := hl
          have m0 := (h.bel.cell (World.block_lt_of_cell? _ _ p0)).trans p0
          have m1 := (h.bel.cell (World.block_lt_of_cell? _ _ p1)).trans p1
          have m2 := (h.bel.cell (World.block_lt_of_cell? _ _ p2)).trans p2
          have m3 := (h.bel.cell (World.block_lt_of_cell? _ _ p3)).trans p3
          have m4 := (h.bel.cell (World.block_lt_of_cell? _ _ p4)).trans p4
          go_simp
          exact hK _ _ ⟨_, _, _, _, _, _, _, _, _, _, rfl, rfl, { h with f1 := fun _ => rfl }⟩
        | 2, ho, hl, hd =>
          obtain rfl := Option.some.inj ho
          obtain rfl : b2 = false := hl
          go_simp
          exact hK _ _ ⟨_, _, _, _, _, _, _, _, _, _, rfl, rfl, h.op2⟩
        | 3, ho, hl, hd =>
          obtain rfl := Option.some.inj ho
          obtain rfl : b3 = false := hl
          go_simp
          exact hK _ _ ⟨_, _, _, _, _, _, _, _, _, _, rfl, rfl, h.op3⟩
        | 4, ho, hl, hd =>
          obtain rfl := Option.some.inj ho
          obtain rfl : b4 = false := hl
          obtain rfl : b2 = true := hd ⟨2, .data⟩ (by simp) rfl
          obtain rfl : b0 = true := hd ⟨0, .data⟩ (by simp) rfl
          obtain rfl := h.f0 rfl
          obtain ⟨g, rfl, hB, h'⟩ := h.op4
          rw [if_pos (by rfl)]
          refine wp_store_row 27 _ _ (by rfl) g #[.int .i64 p.n, .slice nA nl nc, .slice sA sl sc, .slice rA rl rc, .slice mA ml mc] (by rfl) (by rfl) 27 _ hB info_prog (by rfl) (by simp [Value.oneCell']) ?_
          exact hK _ _ ⟨_, _, _, _, _, _, _, _, _, _, rfl, rfl, h'⟩
        | 5, ho, hl, hd =>
          obtain rfl := Option.some.inj ho
          obtain rfl : b5 = false := hl
          obtain rfl : b3 = true := hd ⟨3, .data⟩ (by simp) rfl
          obtain rfl : b1 = true := hd ⟨1, .data⟩ (by simp) rfl
          obtain rfl := h.f1 rfl
          obtain ⟨g, rfl, hB, h'⟩ := h.op5
          rw [if_pos (by rfl)]
          refine wp_store_row 27 _ _ (by rfl) g #[.int .i64 p.n, .slice nA nl nc, .slice sA sl sc, .slice rA rl rc, .slice mA ml mc] (by rfl) (by rfl) 27 _ hB info_prog (by rfl) (by simp [Value.oneCell']) ?_
          exact hK _ _ ⟨_, _, _, _, _, _, _, _, _, _, rfl, rfl, h'⟩
        | i + 6, ho, hl, hd => simp at ho
      case fin =>
        rintro listed a' w' ⟨b0, b1, b2, b3, b4, b5, u33, u34, u7, u8, rfl, rfl, h⟩ hr
        obtain rfl : b0 = true := ready_nil hr (i := 0) rfl (by first | (simp; done) | (simp; intro q; exact absurd q (by decide)))
        obtain rfl : b1 = true := ready_nil hr (i := 1) rfl (by first | (simp; done) | (simp; intro q; exact absurd q (by decide)))
        obtain rfl : b2 = true := ready_nil hr (i := 2) rfl (by first | (simp; done) | (simp; intro q; exact absurd q (by decide)))
        obtain rfl : b3 = true := ready_nil hr (i := 3) rfl (by first | (simp; done) | (simp; intro q; exact absurd q (by decide)))
        obtain rfl : b4 = true := ready_nil hr (i := 4) rfl (by first | (simp; done) | (simp; intro q; exact absurd q (by decide)))
        obtain rfl : b5 = true := ready_nil hr (i := 5) rfl (by first | (simp; done) | (simp; intro q; exact absurd q (by decide)))
        clear hr
        obtain ⟨g7, rfl, hg7, -, hQ7⟩ := h.a7 rfl
        obtain ⟨g8, rfl, hg8, -, hQ8⟩ := h.a8 rfl
        have hQ7 := hQ7 rfl
        have hQ8 := hQ8 rfl
        have hne : g7 ≠ g8 := fun e => h.ne rfl rfl (by rw [e])
        have hbe := h.bel
        obtain rfl := h.f0 rfl
        obtain rfl := h.f1 rfl
        clear h
        have HX5 := Lib.hid (HX.out.bel hbe)
        have HBW5 := Lib.hid (bel_trans HBW.out hbe)
        have hp3 := HP.out.ext HBW.out
        have hrl : rl ≤ 1000 := by have := L.out.few; have := HP.out.rules.len; omega
        obtain ⟨v1, W1, qA, qc, W2, hrun1, hrun2, ho7, hb7⟩ := rules_app (r := choiceR hd) hp3.rules hbe (c0 := [.bool true, .slice hA hl hc, .bool false, .int .i64 0, .slice none 0 0, .slice none 0 0]) ⟨_, _, _, rfl, ints_of HH.out, by simp [choiceR, I64], ints_nil _, ints_nil _⟩ (by omega) 24 24
        have hp3l : w3.heap.size ≤ w'.heap.size := hbe.size
        have hx7 := HX5.out.bel hb7
        have hQ72 := hQ7.bel hb7
        have hQ82 := hQ8.bel hb7
        have c7 : W2.cell? ⟨g7, 3, none⟩ = some (.slice rA rl rc) := hQ72.cell 3
        have z7 : W2.frozen? ⟨g7, 3, none⟩ = false := hQ72.frozen 3
        have hw3 : w.heap.size < w3.heap.size := p5
        clear p0 p1 p2 p3 p4 p5
        obtain ⟨p0, p1, p2, p3, p4, p5⟩ := pcells HX5.out
        have hlt7 : g7 < w'.heap.size := hQ7.lt
        have hlt8 : g8 < w'.heap.size := hQ8.lt
        have HQ7 := Lib.hid hQ7; clear hQ7
        have HQ8 := Lib.hid hQ8; clear hQ8
        have HBE := Lib.hid hbe; clear hbe
        have HP3 := Lib.hid hp3; clear hp3
        have HRUN1 := Lib.hid hrun1; clear hrun1
        have HRUN2 := Lib.hid hrun2; clear hrun2
        have HO7 := Lib.hid ho7; clear ho7
        have HB7 := Lib.hid hb7; clear hb7
        have HX7 := Lib.hid hx7; clear hx7
        have HQ72 := Lib.hid hQ72; clear hQ72
        have HQ82 := Lib.hid hQ82; clear hQ82
        have HNE := Lib.hid hne; clear hne
        go_upto_region 7 with (first | (at_builtin; refine wpList_append_run rfl _ _ _ rfl _ _ rfl rfl _ _ HRUN1.out ?_; clear HRUN1) | (at_builtin; refine wpList_append_run rfl _ _ _ rfl _ _ rfl rfl _ _ HRUN2.out ?_; clear HRUN2))
        have hw37 : w3.heap.size ≤ g7 := hg7
        have hw38 : w3.heap.size ≤ g8 := hg8
        have hwg7 : w.heap.size ≤ g7 := by omega
        have hwg8 : w.heap.size ≤ g8 := by omega
        have ho6 := HO7.out.set (p := ⟨g7, 3, none⟩) hw37 hlt7 (.slice qA (p.rules.length + 1) qc)
        have hx6 := HX7.out.far (p := ⟨g7, 3, none⟩) (by simp; omega) (.slice qA (p.rules.length + 1) qc)
        have hQ76 : Blk (W2.setCell ⟨g7, 3, none⟩ (.slice qA (p.rules.length + 1) qc)) g7 27 #[.int .i64 p.n, .slice nA nl nc, .slice sA sl sc, (.slice qA (p.rules.length + 1) qc), .slice mA ml mc] := by simpa using HQ72.out.set_ 3 (.slice qA (p.rules.length + 1) qc)
        have hQ86 := HQ82.out.far (p := ⟨g7, 3, none⟩) (fun e => HNE.out e.symm) (.slice qA (p.rules.length + 1) qc)
        generalize W2.setCell ⟨g7, 3, none⟩ (.slice qA (p.rules.length + 1) qc) = w6 at *
        clear HX HX5 HX7 HQ72 HQ82 HO7 c7 z7
        clear p0 p1 p2 p3 p4 p5
        obtain ⟨v3, W3, rA', rc', W4, hrun3, hrun4, ho8, hb8⟩ := rules_app (r := neverR hd) HP3.out.rules ho6.below (c0 := [.bool true, .slice hA hl hc, .bool true, .int .i64 1, .slice none 0 0, .slice none 0 0]) ⟨_, _, _, rfl, ints_of HH.out, by simp [neverR, I64], ints_nil _, ints_nil _⟩ (by omega) 24 24
        have hx8 := hx6.bel hb8
        have hQ78 := hQ76.bel hb8
        have hQ88 := hQ86.bel hb8
        have c8 : W4.cell? ⟨g8, 3, none⟩ = some (.slice rA rl rc) := hQ88.cell 3
        have z8 : W4.frozen? ⟨g8, 3, none⟩ = false := hQ88.frozen 3
        have hl86 : g8 < w6.heap.size := hQ86.lt
        obtain ⟨p0, p1, p2, p3, p4, p5⟩ := pcells hx6
        have hbq := HBE.out.size
        have HO6 := Lib.hid ho6; clear ho6
        have HX6 := Lib.hid hx6; clear hx6
        have HQ76 := Lib.hid hQ76; clear hQ76
        have HQ86 := Lib.hid hQ86; clear hQ86
        have HRUN3 := Lib.hid hrun3; clear hrun3
        have HRUN4 := Lib.hid hrun4; clear hrun4
        have HO8 := Lib.hid ho8; clear ho8
        have HB8 := Lib.hid hb8; clear hb8
        have HX8 := Lib.hid hx8; clear hx8
        have HQ78 := Lib.hid hQ78; clear hQ78
        have HQ88 := Lib.hid hQ88; clear hQ88
        go_upto_region 8 with (first | (at_builtin; refine wpList_append_run rfl _ _ _ rfl _ _ rfl rfl _ _ HRUN3.out ?_; clear HRUN3) | (at_builtin; refine wpList_append_run rfl _ _ _ rfl _ _ rfl rfl _ _ HRUN4.out ?_; clear HRUN4))
        have ho9 := HO8.out.set (p := ⟨g8, 3, none⟩) hw38 hl86 (.slice rA' (p.rules.length + 1) rc')
        have ho79 := (HO6.out.bel HB8.out).set (p := ⟨g8, 3, none⟩) hw38 hlt8 (.slice rA' (p.rules.length + 1) rc')
        have hx9 := HX8.out.far (p := ⟨g8, 3, none⟩) (by simp; omega) (.slice rA' (p.rules.length + 1) rc')
        have hQ89 : Blk (W4.setCell ⟨g8, 3, none⟩ (.slice rA' (p.rules.length + 1) rc')) g8 27 #[.int .i64 p.n, .slice nA nl nc, .slice sA sl sc, (.slice rA' (p.rules.length + 1) rc'), .slice mA ml mc] := by simpa using HQ88.out.set_ 3 (.slice rA' (p.rules.length + 1) rc')
        have hQ79 := HQ78.out.far (p := ⟨g8, 3, none⟩) (fun e => HNE.out e) (.slice rA' (p.rules.length + 1) rc')
        generalize W4.setCell ⟨g8, 3, none⟩ (.slice rA' (p.rules.length + 1) rc') = w9 at *
        have hb39 := ho9.below
        have hbw9 := bel_trans HBW.out hb39
        obtain ⟨_, _, e1, hs7⟩ := ho79.sl (by have := HP3.out.rules.len; simp; omega)
        obtain ⟨_, _, e2, hs8⟩ := ho9.sl (by have := HP3.out.rules.len; simp; omega)
        injection e1 with e1 e1' e1''
        injection e2 with e2 e2' e2''
        subst e1 e1'' e2 e2''
        have hq : ProgIn w9 { p with rules := p.rules ++ [choiceR hd] } nA nl nc sA sl sc qA (p.rules.length + 1) qc mA ml mc := ⟨HP.out.n, HP.out.names.ext hbw9, HP.out.shown.ext hbw9, by simpa using hs7, HP.out.min.ext hbw9⟩
        have hs : ProgIn w9 { p with rules := p.rules ++ [neverR hd] } nA nl nc sA sl sc rA' (p.rules.length + 1) rc' mA ml mc := ⟨HP.out.n, HP.out.names.ext hbw9, HP.out.shown.ext hbw9, by simpa using hs8, HP.out.min.ext hbw9⟩
        have hm9 := HM.out.ext hb39
        clear HX8 HX6 HQ78 HQ88 HO6 HO8 HB8 HQ76 HQ86 c8 z8 HBW HBW5 e1' e2' HM HH HP3 HBE HQ7 HQ8 HB7
        clear p0 p1 p2 p3 p4 p5
        have HX := Lib.hid hx9
        have HXQ := Lib.hid hQ79
        have HXS := Lib.hid hQ89
        have HBW := Lib.hid hbw9
        have HM := Lib.hid hm9
        clear hx9 hQ79 hQ89 hbw9 hm9 hb39
        generalize p.rules.length + 1 = ql at *
        obtain ⟨p0, p1, p2, p3, p4, p5⟩ := pcells HX.out
        have HQ := Lib.hid hq; clear hq
        have HS := Lib.hid hs; clear hs
        have HO9 := Lib.hid ho9; clear ho9
        have HO79 := Lib.hid ho79; clear ho79
        have HS7 := Lib.hid hs7; clear hs7
        have HS8 := Lib.hid hs8; clear hs8
        clear HO9 HO79 HS7 HS8
        go_wp2_with fail
        go_fit (models_ok p _ _ _ _ _ _ _ _ _ _ _ _ xA xl xc m _ (HP.out.ext HBW.out) HM.out L.out.c); rintro e u1 ⟨rfl, hb⟩
        replace HX := Lib.hid (HX.out.bel hb)
        replace HXQ := Lib.hid (HXQ.out.bel hb)
        replace HXS := Lib.hid (HXS.out.bel hb)
        replace HBW := Lib.hid (bel_trans HBW.out hb)
        replace HM := Lib.hid (HM.out.ext hb)
        replace HQ := Lib.hid (HQ.out.ext hb)
        replace HS := Lib.hid (HS.out.ext hb)
        clear hb
        clear p0 p1 p2 p3 p4 p5
        obtain ⟨p0, p1, p2, p3, p4, p5⟩ := pcells HXQ.out
        have hxl : xl ≤ 12 := by have := HM.out.len; have := L.out.ml; omega
        have hqr := fun h => L.out.qs.red m h
        have hq0 := L.out.qs.n0
        have HQR := Lib.hid hqr; clear hqr
        have HQ0 := Lib.hid hq0; clear hq0
        go_wp2_with fail
        go_fit (stableIs_any { p with rules := p.rules ++ [choiceR hd] } _ _ _ _ _ _ _ _ _ _ _ _ xA xl xc m _ HQ.out HM.out L.out.qc hxl HQR.out HQ0.out); rintro e u2 ⟨rfl, hb⟩
        rw [L.out.qi]
        replace HX := Lib.hid (HX.out.bel hb)
        replace HXS := Lib.hid (HXS.out.bel hb)
        replace HBW := Lib.hid (bel_trans HBW.out hb)
        replace HS := Lib.hid (HS.out.ext hb)
        clear hb HQ HM HXQ
        clear p0 p1 p2 p3 p4 p5
        obtain ⟨p0, p1, p2, p3, p4, p5⟩ := pcells HX.out
        generalize modelB p m = md at *
        go_wp2_with fail
        go_fit (all_any p _ _ _ _ _ _ _ _ _ _ _ _ _ (HP.out.ext HBW.out) L.out.v L.out.s); rintro e u3 ⟨A, l, c, rfl, hsl, hb⟩
        rw [show allL p = all from HALL.out] at hsl
        replace HXS := Lib.hid (HXS.out.bel hb)
        replace HBW := Lib.hid (bel_trans HBW.out hb)
        replace HS := Lib.hid (HS.out.ext hb)
        clear hb HX
        clear p0 p1 p2 p3 p4 p5
        obtain ⟨p0, p1, p2, p3, p4, p5⟩ := pcells HXS.out
        have HSL := Lib.hid hsl; clear hsl
        go_wp2_with fail
        go_fit (all_any { p with rules := p.rules ++ [neverR hd] } _ _ _ _ _ _ _ _ _ _ _ _ _ HS.out L.out.sv L.out.ss); rintro e u4 ⟨kA, kl, kc, rfl, hsk, hb⟩
        rw [L.out.all] at hsk
        replace HBW := Lib.hid (bel_trans HBW.out hb)
        replace HSL := Lib.hid (HSL.out.ext hb)
        clear hb HXS HS
        clear p0 p1 p2 p3 p4 p5
        have hmd : (md == md) = true := by simp
        have HSK := Lib.hid hsk; clear hsk
        go_wp2_with fail
        go_fit (lists_any _ _ _ _ _ _ all all _ HSL.out HSK.out); rintro e u5 ⟨rfl, hb⟩
        rw [show decide (all = all) = true from by simp]
        have HBX := Lib.hid (bel_trans HBW.out hb)
        clear hb
        go_wp2_with fail
        go_fit (CA.out _); rintro e u6 ⟨rfl, hb⟩
        have HBY := Lib.hid (bel_trans HBX.out hb)
        clear hb
        go_wp2_with fail
        go_ret
        exact ⟨rfl, HBY.out⟩
end Go.Proofs.Ytfopcpmckplemaa

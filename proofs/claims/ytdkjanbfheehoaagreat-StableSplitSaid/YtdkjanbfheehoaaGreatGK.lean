/- Several texts in one: Sl1, Hsb, Sl2, Swb. -/
import Derived.Test.YtdkjanbfheehoaaGreatGJ
import Derived.Test.YtdkjanbfheehoaaGreatMdp
import Derived.Test.YtdkjanbfheehoaaGreatG4
import Derived.Test.YtdkjanbfheehoaaGreatG6
import Derived.Test.YtdkjanbfheehoaaGreatGI
/- Contracts: ostlerlaw20.Lists, Small, With, has; slices of rules and of sets laid out as constants. -/
namespace Go.Proofs.YtdkjanbfheehoaaGreat
open Go.RowKit

set_option maxRecDepth 100000 in
set_option maxHeartbeats 2000000 in
theorem lists_any (aA : Option Addr) (al ac : Nat) (bA : Option Addr) (bl bc : Nat) (xs ys : List (List Int)) (w : World) (ha : SlIs (slR intR) w aA al ac xs) (hb : SlIs (slR intR) w bA bl bc ys) :
    Calls Tryz.prog 26 #[.slice aA al ac, .slice bA bl bc] w fun e w' => e = .returned (.bool (decide (xs = ys))) ∧ Below w.heap.size w w' := by
  have hl := ha.cap
  have hm := ha.max
  have hl2 := hb.cap
  have hm2 := hb.max
  have la := Lib.hid ha.len
  have lb := Lib.hid hb.len
  have HA := Lib.hid ha; clear ha
  have HB := Lib.hid hb; clear hb
  by_cases hne : al = bl
  · subst hne
    go_enter Tryz.func26, Tryz.ntmps26
    go_wp2
    go_loopw [13] (fun i wr => ∃ k : Nat, k ≤ al ∧ i = .int .i64 k ∧ Below w.heap.size w wr ∧ decide (xs = ys) = decide (xs.drop k = ys.drop k)) (fun i _ => al - (intOf i).toNat)
    case atStart => exact ⟨0, Nat.zero_le _, rfl, Below.refl _ _, rfl⟩
    case round =>
      obtain ⟨k, hk, rfl, hbw, hs⟩ := hrel
      have H1 := Lib.hid (HA.out.ext hbw)
      have H2 := Lib.hid (HB.out.ext hbw)
      have HBW := Lib.hid hbw
      clear hbw
      have HS := Lib.hid hs; clear hs
      by_cases hlt : k < al
      · obtain ⟨x, hx, hd⟩ := HA.out.drop hlt
        obtain ⟨y, hy, hd2⟩ := HB.out.drop hlt
        obtain ⟨b, off, hA, hl, hc, rfl, _, f0, g1⟩ := H1.out.set hx
        obtain ⟨b', off', hA', hl', hc', rfl, _, e0, p1⟩ := H2.out.set hy
        have HX := Lib.hid hx; clear hx
        have HD := Lib.hid hd; clear hd
        have HY := Lib.hid hy; clear hy
        have HD2 := Lib.hid hd2; clear hd2
        have G1 := Lib.hid g1; clear g1
        have P1 := Lib.hid p1; clear p1
        have i0 : (0 : Int) ≤ (k : Int) := by omega
        have i1 : (k : Int) < (al : Int) := by omega
        by_cases he : x = y
        · have HE := Lib.hid he
          have heb : decide (x = y) = true := decide_eq_true he
          clear he
          have hct := fun W hb => heb ▸ lawInts_any hA hl hc hA' hl' hc' x y W (G1.out.ext hb) (P1.out.ext hb)
          have HCT := Lib.hid hct
          clear hct heb
          go_wp2_with fail
          refine wp_region_later [(⟨b, off + k, none⟩, .slice hA hl hc), (⟨b', off' + k, none⟩, .slice hA' hl' hc')] (by kernel_rfl) (by kernel_rfl) (by simp [go_sem, *]) ?_
          intro hk; simp only [List.forall_mem_cons] at hk; obtain ⟨k1_0, k1_1, kz⟩ := hk; clear kz
          repeat go_big_quiet_step ((first | (go_at_call 25; exact Calls.later (HCT.out _ (Later.h _)))))
          refine wpQuiet_nil ?_
          rintro w2 ⟨u1, rfl⟩
          have HU1 := Lib.hid u1.h
          clear k1_0 k1_1
          go_wp2_with fail
          go_roundw
          case rel => exact ⟨k + 1, by omega, by go_num, bel_trans HBW.out HU1.out, by rw [HS.out, HD.out, HD2.out, eq_cons, decide_eq_true HE.out, Bool.true_and]⟩
          case measure => simp [intOf]; omega
        · have HE := Lib.hid he
          have heb : decide (x = y) = false := decide_eq_false he
          clear he
          have hct := fun W hb => heb ▸ lawInts_any hA hl hc hA' hl' hc' x y W (G1.out.ext hb) (P1.out.ext hb)
          have HCT := Lib.hid hct
          clear hct heb
          go_wp2_with fail
          refine wp_region_later [(⟨b, off + k, none⟩, .slice hA hl hc), (⟨b', off' + k, none⟩, .slice hA' hl' hc')] (by kernel_rfl) (by kernel_rfl) (by simp [go_sem, *]) ?_
          intro hk; simp only [List.forall_mem_cons] at hk; obtain ⟨k1_0, k1_1, kz⟩ := hk; clear kz
          repeat go_big_quiet_step ((first | (go_at_call 25; exact Calls.later (HCT.out _ (Later.h _)))))
          refine wpQuiet_nil ?_
          rintro w2 ⟨u1, rfl⟩
          have HU1 := Lib.hid u1.h
          clear k1_0 k1_1
          go_wp2_with fail
          go_ret
          exact ⟨ret_bool (by rw [HS.out, HD.out, HD2.out, eq_cons, decide_eq_false HE.out, Bool.false_and]), bel_trans HBW.out HU1.out⟩
      · have hd := HA.out.stop (k := k) (by omega)
        have hd2 := HB.out.stop (k := k) (by omega)
        have HD := Lib.hid hd; clear hd
        have HD2 := Lib.hid hd2; clear hd2
        go_wp2
        go_ret
        exact ⟨ret_bool (by rw [HS.out, HD.out, HD2.out]; rfl), HBW.out⟩
  · have he : xs ≠ ys := fun e => hne (by rw [la.out, lb.out, e])
    have HE := Lib.hid he; clear he
    go_enter Tryz.func26, Tryz.ntmps26
    go_wp2
    go_ret
    exact ⟨ret_bool (decide_eq_false HE.out).symm, Below.refl _ _⟩

def smallB (p : GProg) : Bool := fewB p && decide (p.n ≤ 6) && decide (validE p = 0)
theorem small_is {p : GProg} (h : smallB p = true) : fewB p = true ∧ p.n ≤ 6 ∧ validE p = 0 := by
  unfold smallB at h
  simp only [Bool.and_eq_true, decide_eq_true_eq] at h
  exact ⟨h.1.1, h.1.2, h.2⟩
theorem small_P {p : GProg} (h : smallB p = true) : SmallP p := by
  obtain ⟨h1, h2, h3⟩ := small_is h
  exact ⟨validE_is h3, valid_n h3, by omega, by have := (few_head h1).1; omega⟩

set_option maxRecDepth 100000 in
set_option maxHeartbeats 2000000 in
theorem small_any (p : GProg) (nA : Option Addr) (nl nc : Nat) (sA : Option Addr) (sl sc : Nat) (rA : Option Addr) (rl rc : Nat) (mA : Option Addr) (ml mc : Nat) (w : World) (hp : ProgIn w p nA nl nc sA sl sc rA rl rc mA ml mc) :
    Calls Tryz.prog 5 #[.agg #[.int .i64 p.n, .slice nA nl nc, .slice sA sl sc, .slice rA rl rc, .slice mA ml mc]] w fun e w' => e = .returned (.bool (smallB p)) ∧ Below w.heap.size w w' := by
  have cF := fun W (hb : Below w.heap.size w W) => few_any p nA nl nc sA sl sc rA rl rc mA ml mc W (hp.ext hb)
  have cV := fun W (hb : Below w.heap.size w W) => valid_any p nA nl nc sA sl sc rA rl rc mA ml mc W (hp.ext hb)
  have hs : smallB p = (fewB p && decide (p.n ≤ 6) && decide (validE p = 0)) := rfl
  generalize smallB p = sm at *
  cases hf : fewB p with
  | false =>
    rw [hf] at cF hs
    simp only [Bool.false_and] at hs
    subst hs
    have HF := Lib.hid hf; clear hf
    have CF := Lib.hid cF; clear cF
    have CV := Lib.hid cV; clear cV
    have HP := Lib.hid hp; clear hp
    go_enter Tryz.func5, Tryz.ntmps5
    go_wp2_with fail
    go_fit (CF.out _ (bel_alloc _ _)); rintro e w1 ⟨rfl, hb1⟩
    have HB1 := Lib.hid (bel_trans (bel_alloc _ _) hb1)
    clear hb1
    go_wp2_with fail
    go_ret
    exact ⟨rfl, HB1.out⟩
  | true =>
    rw [hf] at cF hs
    by_cases h6 : p.n ≤ 6
    · have d6 : decide (p.n ≤ 6) = true := decide_eq_true h6
      rw [d6] at hs
      simp only [Bool.true_and] at hs
      generalize validE p = v at *
      by_cases hv : v = 0
      · subst hv
        simp only [decide_true] at hs
        subst hs
        have HF := Lib.hid hf; clear hf
        have CF := Lib.hid cF; clear cF
        have CV := Lib.hid cV; clear cV
        have HP := Lib.hid hp; clear hp
        go_enter Tryz.func5, Tryz.ntmps5
        go_wp2_with fail
        go_fit (CF.out _ (bel_alloc _ _)); rintro e w1 ⟨rfl, hb1⟩
        have hx1 := (Blk.new w 27 #[.int .i64 p.n, .slice nA nl nc, .slice sA sl sc, .slice rA rl rc, .slice mA ml mc]).bel hb1
        obtain ⟨p0, p1, p2, p3, p4, p5⟩ := pcells hx1
        have HB1 := Lib.hid (bel_trans (bel_alloc _ _) hb1)
        clear hb1
        have HX1 := Lib.hid hx1; clear hx1
        go_wp2_with fail
        go_fit (CV.out _ HB1.out); rintro e w2 ⟨rfl, hb2⟩
        have HB2 := Lib.hid (bel_trans HB1.out hb2)
        clear hb2
        go_wp2_with fail
        go_ret
        exact ⟨rfl, HB2.out⟩
      · have q1 : (v == 0) = false := by simpa using hv
        simp only [decide_eq_false hv] at hs
        subst hs
        have HF := Lib.hid hf; clear hf
        have CF := Lib.hid cF; clear cF
        have CV := Lib.hid cV; clear cV
        have HP := Lib.hid hp; clear hp
        have HV := Lib.hid hv; clear hv
        go_enter Tryz.func5, Tryz.ntmps5
        go_wp2_with fail
        go_fit (CF.out _ (bel_alloc _ _)); rintro e w1 ⟨rfl, hb1⟩
        have hx1 := (Blk.new w 27 #[.int .i64 p.n, .slice nA nl nc, .slice sA sl sc, .slice rA rl rc, .slice mA ml mc]).bel hb1
        obtain ⟨p0, p1, p2, p3, p4, p5⟩ := pcells hx1
        have HB1 := Lib.hid (bel_trans (bel_alloc _ _) hb1)
        clear hb1
        have HX1 := Lib.hid hx1; clear hx1
        go_wp2_with fail
        go_fit (CV.out _ HB1.out); rintro e w2 ⟨rfl, hb2⟩
        have HB2 := Lib.hid (bel_trans HB1.out hb2)
        clear hb2
        go_wp2_with fail
        go_ret
        exact ⟨rfl, HB2.out⟩
    · have d6 : decide (p.n ≤ 6) = false := decide_eq_false h6
      rw [d6] at hs
      simp only [Bool.true_and, Bool.false_and] at hs
      subst hs
      have HF := Lib.hid hf; clear hf
      have CF := Lib.hid cF; clear cF
      have CV := Lib.hid cV; clear cV
      have HP := Lib.hid hp; clear hp
      go_enter Tryz.func5, Tryz.ntmps5
      go_wp2_with fail
      go_fit (CF.out _ (bel_alloc _ _)); rintro e w1 ⟨rfl, hb1⟩
      have hx1 := (Blk.new w 27 #[.int .i64 p.n, .slice nA nl nc, .slice sA sl sc, .slice rA rl rc, .slice mA ml mc]).bel hb1
      obtain ⟨p0, p1, p2, p3, p4, p5⟩ := pcells hx1
      have HB1 := Lib.hid (bel_trans (bel_alloc _ _) hb1)
      clear hb1
      have HX1 := Lib.hid hx1; clear hx1
      go_wp2_with fail
      go_ret
      exact ⟨rfl, HB1.out⟩

set_option maxRecDepth 100000 in
set_option maxHeartbeats 1000000 in
theorem with20_any (rA : Option Addr) (rl rc : Nat) (rs : List GRule) (n : Nat) (w : World) (h : SlIs ruleR w rA rl rc rs) (hn : n ≤ 4000) :
    Calls Tryz.prog 9 #[.int .i64 (n : Int), .slice rA rl rc] w fun e w' => ∃ (nA : Option Addr) (nl nc : Nat), e = .returned (.agg #[.int .i64 (n : Int), .slice nA nl nc, .slice none 0 0, .slice rA rl rc, .slice none 0 0]) ∧ ProgIn w' (withP (n : Int) rs) nA nl nc none 0 0 rA rl rc none 0 0 ∧ Below w.heap.size w w' ∧ (∀ ad, nA = some ad → w.heap.size ≤ ad.block) := by
  have hmk := make_str n (by omega)
  have n0 : (0 : Int) ≤ (n : Int) := by omega
  have n1 : (n : Int) ≤ 4000 := by omega
  have H := Lib.hid h; clear h
  go_enter Tryz.func9, Tryz.ntmps9
  go_wp2_with fail
  change bodyPost _ _ _ _ _ (allocs w (wthO n rA rl rc w.heap.size))
  refine bodyPost_ret (results_cell_row rfl _ _ (w.heap.size + 0) 27 _ (0, 0) _ rfl (allocs_heap (wthO n rA rl rc w.heap.size) w 0 _ rfl) Tryz.underlying27 rfl (by kernel_rfl)) rfl ?_
  refine ⟨some ⟨w.heap.size + 1, 0, none⟩, n, n, rfl, ⟨by constructor <;> simp [withP] <;> omega, ?_, SlIs.nil _ _, H.out.ext (allocs_bel _ _), SlIs.nil _ _⟩, allocs_bel _ _, fun ad e => by cases e; simp⟩
  refine sl_of_cells (allocs_blk (os := wthO n rA rl rc w.heap.size) 1 rfl) (by simp [withP]) (by omega) (fun i x hx => ?_)
  have hi : i < n := by
    have := (List.getElem?_eq_some_iff.1 hx).1
    simpa [withP] using this
  have hx' : x = ByteArray.empty := by
    simp only [withP, Int.toNat_natCast] at hx
    rw [List.getElem?_replicate, if_pos hi] at hx
    exact (Option.some.inj hx).symm
  subst hx'
  refine ⟨[.string ByteArray.empty], ⟨rfl, by simp [maxLen]⟩, fun j u hu => ?_⟩
  match j, hu with
  | 0, hu =>
    have hu' : Value.string ByteArray.empty = u := Option.some.inj hu
    subst hu'
    exact valCells_get n (fun _ => .string ByteArray.empty) (i * 1 + 0) (by omega)
  | j + 1, hu => simp at hu

set_option maxRecDepth 100000 in
set_option maxHeartbeats 1000000 in
theorem has_any (p : GProg) (nA : Option Addr) (nl nc : Nat) (sA : Option Addr) (sl sc : Nat) (rA : Option Addr) (rl rc : Nat) (mA : Option Addr) (ml mc : Nat) (xA : Option Addr) (xl xc : Nat) (want : List (List Int)) (w : World) (hp : ProgIn w p nA nl nc sA sl sc rA rl rc mA ml mc) (hx : SlIs (slR intR) w xA xl xc want) (hv : validE p = 0) (hs : SmallP p) :
    Calls Tryz.prog 27 #[.agg #[.int .i64 p.n, .slice nA nl nc, .slice sA sl sc, .slice rA rl rc, .slice mA ml mc], .slice xA xl xc] w fun e w' => e = .returned (.bool (decide (allL p = want))) ∧ Below w.heap.size w w' := by
  have cA := all_any p nA nl nc sA sl sc rA rl rc mA ml mc (w.alloc (.cells #[.int .i64 p.n, .slice nA nl nc, .slice sA sl sc, .slice rA rl rc, .slice mA ml mc] 27)) (hp.ext (bel_alloc _ _)) hv hs
  generalize allL p = all at *
  have HP := Lib.hid hp; clear hp
  have HX := Lib.hid hx; clear hx
  have HV := Lib.hid hv; clear hv
  have HS := Lib.hid hs; clear hs
  have CA := Lib.hid cA; clear cA
  go_enter Tryz.func27, Tryz.ntmps27
  go_wp2_with fail
  go_fit CA.out; rintro e w1 ⟨A, l, c, rfl, hsl, hb1⟩
  have hx1 := HX.out.ext (bel_trans (bel_alloc _ _) hb1)
  have HB1 := Lib.hid (bel_trans (bel_alloc _ _) hb1)
  clear hb1
  have HX1 := Lib.hid hx1; clear hx1
  have HSL := Lib.hid hsl; clear hsl
  go_wp2_with fail
  go_fit (lists_any A l c xA xl xc all want _ HSL.out HX1.out); rintro e w2 ⟨rfl, hb2⟩
  have HB2 := Lib.hid (bel_trans HB1.out hb2)
  clear hb2
  go_wp2_with fail
  go_ret
  exact ⟨rfl, HB2.out⟩

/-- Cells that read as rules, one behind the other. -/
def RulesAt (W : World) : List Value → List GRule → Prop
  | c0 :: c1 :: c2 :: c3 :: c4 :: c5 :: r, x :: xs => c0 = .bool x.choice ∧ Ints W c1 x.head ∧ c2 = .bool x.sum ∧ c3 = .int .i64 x.bound ∧ I64 x.bound ∧ Ints W c4 x.body ∧ Ints W c5 x.w ∧ RulesAt W r xs
  | [], [] => True
  | _, _ => False
theorem rulesAt_get {W : World} : ∀ (xs : List GRule) (cs : List Value), RulesAt W cs xs → ∀ i x, xs[i]? = some x → ∃ c, ruleR.is W c x ∧ ∀ j u, c[j]? = some u → cs[i * 6 + j]? = some u
  | [], _, _, i, x, hx => by simp at hx
  | y :: ys, c0 :: c1 :: c2 :: c3 :: c4 :: c5 :: r, h, 0, x, hx => by
    simp at hx; subst hx
    obtain ⟨rfl, h1, rfl, rfl, h2, h3, h4, _⟩ := h
    refine ⟨_, ⟨c1, c4, c5, rfl, h1, h2, h3, h4⟩, fun j u hu => ?_⟩
    match j, hu with
    | 0, hu => exact hu
    | 1, hu => exact hu
    | 2, hu => exact hu
    | 3, hu => exact hu
    | 4, hu => exact hu
    | 5, hu => exact hu
    | j + 6, hu => simp at hu
  | y :: ys, c0 :: c1 :: c2 :: c3 :: c4 :: c5 :: r, h, i + 1, x, hx => by
    obtain ⟨c, h1, h2⟩ := rulesAt_get ys r h.2.2.2.2.2.2.2 i x (by simpa using hx)
    refine ⟨c, h1, fun j u hu => ?_⟩
    rw [show (i + 1) * 6 + j = (i * 6 + j) + 6 from by omega]
    exact h2 j u hu
theorem sl_rulesAt {W : World} {g l : Nat} {t : TypeId} {cs : List Value} {xs : List GRule} (h : Blk W g t cs.toArray) (hc : RulesAt W cs xs) (hl : l = xs.length) (hs : l ≤ 17592186044416) : SlIs ruleR W (some ⟨g, 0, none⟩) l l xs :=
  sl_of_cells h hl hs (fun i x hx => by
    obtain ⟨c, h1, h2⟩ := rulesAt_get xs cs hc i x hx
    exact ⟨c, h1, fun j u hu => by simpa [ruleR] using h2 j u hu⟩)
/-- Cells that read as sets. -/
def SetsAt (W : World) : List Value → List (List Int) → Prop
  | c :: r, x :: xs => Ints W c x ∧ SetsAt W r xs
  | [], [] => True
  | _, _ => False
theorem setsAt_get {W : World} : ∀ (xs : List (List Int)) (cs : List Value), SetsAt W cs xs → ∀ i x, xs[i]? = some x → ∃ c : List Value, (slR intR).is W c x ∧ ∀ (j : Nat) (u : Value), c[j]? = some u → cs[i + j]? = some u
  | [], _, _, i, x, hx => by simp at hx
  | y :: ys, c0 :: r, h, 0, x, hx => by
    simp at hx; subst hx
    refine ⟨[c0], h.1, fun j u hu => ?_⟩
    match j, hu with
    | 0, hu => exact hu
    | j + 1, hu => simp at hu
  | y :: ys, c0 :: r, h, i + 1, x, hx => by
    obtain ⟨c, h1, h2⟩ := setsAt_get ys r h.2 i x (by simpa using hx)
    refine ⟨c, h1, fun j u hu => ?_⟩
    rw [show i + 1 + j = (i + j) + 1 from by omega]
    exact h2 j u hu
theorem sl_setsAt {W : World} {g l : Nat} {t : TypeId} {cs : List Value} {xs : List (List Int)} (h : Blk W g t cs.toArray) (hc : SetsAt W cs xs) (hl : l = xs.length) (hs : l ≤ 17592186044416) : SlIs (slR intR) W (some ⟨g, 0, none⟩) l l xs :=
  sl_of_cells h hl hs (fun i x hx => by
    obtain ⟨c, h1, h2⟩ := setsAt_get xs cs hc i x hx
    exact ⟨c, h1, fun j u hu => by simpa [slR] using h2 j u hu⟩)
theorem SlIs.keptR {α : Type} {R : Rep α} {M : List Nat} {w w' : World} {A : Option Addr} {l c : Nat} {xs : List α} (h : SlIs R w A l c xs) (hk : Kept M w w') (ho : Off M A l) (hr : ∀ cs x, x ∈ xs → R.is w cs x → R.is w' cs x) : SlIs R w' A l c xs := by
  refine ⟨h.1, h.2.1, h.2.2.1, fun h0 => ?_⟩
  obtain ⟨ad, e, hl, hc⟩ := h.2.2.2 h0
  refine ⟨ad, e, Nat.lt_of_lt_of_le hl hk.size, fun i x hx => ?_⟩
  obtain ⟨cs, h1, h2⟩ := hc i x hx
  refine ⟨cs, hr cs x (List.mem_of_getElem? hx) h1, fun j u hu => hk.cell (h2 j u hu) ?_⟩
  have hb : (ad.add (i * R.size + j)).block = ad.block := by unfold Addr.add; split <;> rfl
  rw [hb]
  exact ho h0 ad e
theorem info_prog : (Tryz.prog.info? 27).map (·.size) = some 5 := by kernel_rfl
theorem ints_of {W : World} {A : Option Addr} {l c : Nat} {xs : List Int} (h : SlIs intR W A l c xs) : Ints W (.slice A l c) xs := ⟨A, l, c, rfl, h⟩
theorem ints_nil (W : World) : Ints W (.slice none 0 0) [] := ⟨none, 0, 0, rfl, SlIs.nil _ _⟩
end Go.Proofs.YtdkjanbfheehoaaGreat
/- Contracts: ostlerlaw20.Has and before. -/
namespace Go.Proofs.YtdkjanbfheehoaaGreat
open Go.RowKit

theorem any_take' {α : Type} {l : List α} {k : Nat} {x : α} {f : α → Bool} (h : l[k]? = some x) : (l.take (k + 1)).any f = ((l.take k).any f || f x) := by rw [take_snoc' h, List.any_append]; simp
set_option maxRecDepth 100000 in
set_option maxHeartbeats 1000000 in
theorem hasM_any (aA : Option Addr) (al ac : Nat) (bA : Option Addr) (bl bc : Nat) (xs : List (List Int)) (m : List Int) (w : World) (ha : SlIs (slR intR) w aA al ac xs) (hb : SlIs intR w bA bl bc m) :
    Calls Tryz.prog 12 #[.slice aA al ac, .slice bA bl bc] w fun e w' => e = .returned (.bool (decide (m ∈ xs))) ∧ Below w.heap.size w w' := by
  have hl := ha.cap
  have hm := ha.max
  have la := Lib.hid ha.len
  have HA := Lib.hid ha; clear ha
  have HB := Lib.hid hb; clear hb
  go_enter Tryz.func12, Tryz.ntmps12
  go_wp2
  go_loopw [9] (fun i wr => ∃ k : Nat, k ≤ al ∧ i = .int .i64 k ∧ Below w.heap.size w wr ∧ (xs.take k).any (fun x => decide (x = m)) = false) (fun i _ => al - (intOf i).toNat)
  case atStart => exact ⟨0, Nat.zero_le _, rfl, Below.refl _ _, by simp⟩
  case round =>
    obtain ⟨k, hk, rfl, hbw, hs⟩ := hrel
    by_cases hlt : k < al
    · obtain ⟨x, hx, -⟩ := HA.out.drop hlt
      obtain ⟨b, off, hA, hl', hc, rfl, _, f0, g1⟩ := (HA.out.ext hbw).set hx
      have i0 : (0 : Int) ≤ (k : Int) := by omega
      have i1 : (k : Int) < (al : Int) := by omega
      have hst := any_take' (f := fun x => decide (x = m)) hx
      have cI := lawInts_any hA hl' hc bA bl bc x m wr g1 (HB.out.ext hbw)
      by_cases he : x = m
      · rw [decide_eq_true he] at cI
        have hmem : m ∈ xs := he ▸ List.mem_of_getElem? hx
        have HX := Lib.hid hx; clear hx
        have HS := Lib.hid hs; clear hs
        have HBW := Lib.hid hbw; clear hbw
        have G1 := Lib.hid g1; clear g1
        have HST := Lib.hid hst; clear hst
        have CI := Lib.hid cI; clear cI
        have HE := Lib.hid he; clear he
        have HMEM := Lib.hid hmem; clear hmem
        go_wp2_with fail
        go_fit CI.out; rintro e w1 ⟨rfl, hb1⟩
        have HB1 := Lib.hid (bel_trans HBW.out hb1)
        clear hb1
        go_wp2_with fail
        go_ret
        exact ⟨ret_bool (decide_eq_true HMEM.out).symm, HB1.out⟩
      · rw [decide_eq_false he] at cI
        rw [hs, decide_eq_false he] at hst
        have HX := Lib.hid hx; clear hx
        have HS := Lib.hid hs; clear hs
        have HBW := Lib.hid hbw; clear hbw
        have G1 := Lib.hid g1; clear g1
        have HST := Lib.hid hst; clear hst
        have CI := Lib.hid cI; clear cI
        have HE := Lib.hid he; clear he
        go_wp2_with fail
        go_fit CI.out; rintro e w1 ⟨rfl, hb1⟩
        have HB1 := Lib.hid (bel_trans HBW.out hb1)
        clear hb1
        go_wp2_with fail
        go_roundw
        case rel => exact ⟨k + 1, by omega, by go_num, HB1.out, HST.out⟩
        case measure => simp [intOf]; omega
    · have hnm : decide (m ∈ xs) = false := by
        rw [List.take_of_length_le (by have := la.out; omega)] at hs
        rw [decide_eq_false_iff_not]
        intro hm
        rw [List.any_eq_false] at hs
        exact hs m hm (by simp)
      have HBW := Lib.hid hbw
      clear hbw
      have HS := Lib.hid hs; clear hs
      have HNM := Lib.hid hnm; clear hnm
      go_wp2
      go_ret
      exact ⟨ret_bool HNM.out.symm, HBW.out⟩
end Go.Proofs.YtdkjanbfheehoaaGreat
/- The example program of chapter 20 (ostlerlaw20.even). -/
namespace Go.Proofs.YtdkjanbfheehoaaGreat
open Go.RowKit

def evR1 : GRule := ⟨false, [1], false, 0, [-2], []⟩
def evR2 : GRule := ⟨false, [2], false, 0, [-1], []⟩
def evM : GMin := ⟨0, [1, 2], [2, 1]⟩
def evP : GProg := { withP 2 [evR1, evR2] with min := [evM] }
def evO (n : Nat) : List Obj := [.cells #[.int .i64 0, .slice none 0 0, .slice none 0 0, .slice none 0 0, .slice none 0 0] 27,
  .cells #[.int .i64 1] 3, .cells #[.int .i64 (-2)] 3, .cells #[.int .i64 2] 3, .cells #[.int .i64 (-1)] 3,
  .cells #[.bool false, .slice (some ⟨n + 1, 0, none⟩) 1 1, .bool false, .int .i64 0, .slice (some ⟨n + 2, 0, none⟩) 1 1, .slice none 0 0, .bool false, .slice (some ⟨n + 3, 0, none⟩) 1 1, .bool false, .int .i64 0, .slice (some ⟨n + 4, 0, none⟩) 1 1, .slice none 0 0] 32]
theorem i1 (W : World) (g : Nat) (x : Int) (h : Blk W g 3 #[.int .i64 x]) (hx : I64 x) : Ints W (.slice (some ⟨g, 0, none⟩) 1 1) [x] :=
  ints_of (sl_ints [x] h rfl (by simp) (fun y hy => by simp at hy; subst hy; exact hx))
theorem i2 (W : World) (g : Nat) (x y : Int) (h : Blk W g 3 #[.int .i64 x, .int .i64 y]) (hx : I64 x) (hy : I64 y) : Ints W (.slice (some ⟨g, 0, none⟩) 2 2) [x, y] :=
  ints_of (sl_ints [x, y] h rfl (by simp) (fun z hz => by simp at hz; rcases hz with rfl | rfl <;> assumption))
theorem ev_sl' {W : World} {n : Nat} (h : ∀ i cs t, 0 < i → (evO n)[i]? = some (.cells cs t) → Blk W (n + i) t cs) : SlIs ruleR W (some ⟨n + 5, 0, none⟩) 2 2 [evR1, evR2] :=
  sl_rulesAt (h 5 _ _ (by omega) rfl) ⟨rfl, i1 _ _ _ (h 1 _ _ (by omega) rfl) (by simp [I64]), rfl, rfl, by simp [I64, evR1], i1 _ _ _ (h 2 _ _ (by omega) rfl) (by simp [I64]), ints_nil _,
    rfl, i1 _ _ _ (h 3 _ _ (by omega) rfl) (by simp [I64]), rfl, rfl, by simp [I64, evR2], i1 _ _ _ (h 4 _ _ (by omega) rfl) (by simp [I64]), ints_nil _, trivial⟩ rfl (by simp)
theorem ev_sl (w : World) : SlIs ruleR (allocs w (evO w.heap.size)) (some ⟨w.heap.size + 5, 0, none⟩) 2 2 [evR1, evR2] := ev_sl' (n := w.heap.size) fun _ _ _ _ h => allocs_blk _ h

set_option maxRecDepth 100000 in
set_option maxHeartbeats 1000000 in
theorem even_any (w : World) :
    Calls Tryz.prog 22 #[] w fun e w' => ∃ (nA : Option Addr) (nl nc : Nat) (sA : Option Addr) (sl sc : Nat) (rA : Option Addr) (rl rc : Nat) (mA : Option Addr) (ml mc : Nat), e = .returned (.agg #[.int .i64 evP.n, .slice nA nl nc, .slice sA sl sc, .slice rA rl rc, .slice mA ml mc]) ∧ ProgIn w' evP nA nl nc sA sl sc rA rl rc mA ml mc ∧ Below w.heap.size w w' := by
  go_enter Tryz.func22, Tryz.ntmps22
  go_wp2_with fail
  change Calls _ _ _ (allocs w (evO w.heap.size)) _
  go_fit (with20_any _ _ _ [evR1, evR2] 2 _ (ev_sl w) (by omega)); rintro e w1 ⟨nA, nl, nc, rfl, hp, hb1, hn1⟩
  have hx : ∀ i cs t, (evO w.heap.size)[i]? = some (.cells cs t) → Blk w1 (w.heap.size + i) t cs := fun i cs t h => (allocs_blk (w := w) (os := evO w.heap.size) i h).bel hb1
  have hx1 : Blk w1 w.heap.size 27 #[.int .i64 0, .slice none 0 0, .slice none 0 0, .slice none 0 0, .slice none 0 0] := hx 0 _ _ rfl
  have hlt : w.heap.size < w1.heap.size := hx1.lt
  have HB1 := Lib.hid (bel_trans (allocs_bel _ _) hb1)
  have hn1 : ∀ ad, nA = some ad → w.heap.size < ad.block := by
    intro ad e
    have h1 := hn1 ad e
    have h6 : (allocs w (evO w.heap.size)).heap.size = w.heap.size + 6 := by simp [allocs, evO]
    omega
  clear hb1
  have HX1 := Lib.hid hx1; clear hx1
  have HP := Lib.hid hp; clear hp
  have HX := Lib.hid hx; clear hx
  have HN1 := Lib.hid hn1; clear hn1
  go_wp2_with (refine wpList_store_row (by rfl) 27 _ _ (by rfl) w.heap.size #[.int .i64 2, .slice nA nl nc, .slice none 0 0, .slice (some ⟨w.heap.size + 1 + 1 + 1 + 1 + 1, 0, none⟩) 2 2, .slice (some ⟨w1.heap.size + 1 + 1 + 1, 0, none⟩) 1 1] (by rfl) (by rfl) 27 _ ((((HX1.out.alloc _).alloc _).alloc _).alloc _) info_prog (by rfl) (by simp [Value.oneCell']) ?_)
  have hbe : Below w1.heap.size w1 ((((w1.alloc (.cells #[.int .i64 2, .slice nA nl nc, .slice none 0 0, .slice (some ⟨w.heap.size + 1 + 1 + 1 + 1 + 1, 0, none⟩) 2 2, .slice (some ⟨w1.heap.size + 1 + 1 + 1, 0, none⟩) 1 1] 27)).alloc (.cells #[.int .i64 1, .int .i64 2] 3)).alloc (.cells #[.int .i64 2, .int .i64 1] 3)).alloc (.cells #[.int .i64 0, .slice (some ⟨w1.heap.size + 1, 0, none⟩) 2 2, .slice (some ⟨w1.heap.size + 1 + 1, 0, none⟩) 2 2] 38)) := bel_trans (bel_alloc _ _) (bel_trans (bel_alloc _ _) (bel_trans (bel_alloc _ _) (bel_alloc _ _)))
  have hy1 : Blk ((((w1.alloc (.cells #[.int .i64 2, .slice nA nl nc, .slice none 0 0, .slice (some ⟨w.heap.size + 1 + 1 + 1 + 1 + 1, 0, none⟩) 2 2, .slice (some ⟨w1.heap.size + 1 + 1 + 1, 0, none⟩) 1 1] 27)).alloc (.cells #[.int .i64 1, .int .i64 2] 3)).alloc (.cells #[.int .i64 2, .int .i64 1] 3)).alloc (.cells #[.int .i64 0, .slice (some ⟨w1.heap.size + 1, 0, none⟩) 2 2, .slice (some ⟨w1.heap.size + 1 + 1, 0, none⟩) 2 2] 38)) (w1.heap.size + 1) 3 #[.int .i64 1, .int .i64 2] := ((blk_new (by simp) _ _).alloc _).alloc _
  have hy2 : Blk ((((w1.alloc (.cells #[.int .i64 2, .slice nA nl nc, .slice none 0 0, .slice (some ⟨w.heap.size + 1 + 1 + 1 + 1 + 1, 0, none⟩) 2 2, .slice (some ⟨w1.heap.size + 1 + 1 + 1, 0, none⟩) 1 1] 27)).alloc (.cells #[.int .i64 1, .int .i64 2] 3)).alloc (.cells #[.int .i64 2, .int .i64 1] 3)).alloc (.cells #[.int .i64 0, .slice (some ⟨w1.heap.size + 1, 0, none⟩) 2 2, .slice (some ⟨w1.heap.size + 1 + 1, 0, none⟩) 2 2] 38)) (w1.heap.size + 1 + 1) 3 #[.int .i64 2, .int .i64 1] := (blk_new (by simp) _ _).alloc _
  have hy3 : Blk ((((w1.alloc (.cells #[.int .i64 2, .slice nA nl nc, .slice none 0 0, .slice (some ⟨w.heap.size + 1 + 1 + 1 + 1 + 1, 0, none⟩) 2 2, .slice (some ⟨w1.heap.size + 1 + 1 + 1, 0, none⟩) 1 1] 27)).alloc (.cells #[.int .i64 1, .int .i64 2] 3)).alloc (.cells #[.int .i64 2, .int .i64 1] 3)).alloc (.cells #[.int .i64 0, .slice (some ⟨w1.heap.size + 1, 0, none⟩) 2 2, .slice (some ⟨w1.heap.size + 1 + 1, 0, none⟩) 2 2] 38)) (w1.heap.size + 1 + 1 + 1) 38 #[.int .i64 0, .slice (some ⟨w1.heap.size + 1, 0, none⟩) 2 2, .slice (some ⟨w1.heap.size + 1 + 1, 0, none⟩) 2 2] := blk_new (by simp) _ _
  generalize ((((w1.alloc (.cells #[.int .i64 2, .slice nA nl nc, .slice none 0 0, .slice (some ⟨w.heap.size + 1 + 1 + 1 + 1 + 1, 0, none⟩) 2 2, .slice (some ⟨w1.heap.size + 1 + 1 + 1, 0, none⟩) 1 1] 27)).alloc (.cells #[.int .i64 1, .int .i64 2] 3)).alloc (.cells #[.int .i64 2, .int .i64 1] 3)).alloc (.cells #[.int .i64 0, .slice (some ⟨w1.heap.size + 1, 0, none⟩) 2 2, .slice (some ⟨w1.heap.size + 1 + 1, 0, none⟩) 2 2] 38)) = W4 at *
  have hz := HX1.out.bel hbe
  have hk : Kept [w.heap.size] W4 (W4.setRow w.heap.size #[.int .i64 2, .slice nA nl nc, .slice none 0 0, .slice (some ⟨w.heap.size + 1 + 1 + 1 + 1 + 1, 0, none⟩) 2 2, .slice (some ⟨w1.heap.size + 1 + 1 + 1, 0, none⟩) 1 1]) := (Kept.refl _ _).row (.inl (by simp)) _
  refine bodyPost_ret (results_cell_row rfl _ _ w.heap.size 27 _ (0, 0) _ rfl (hz.row #[.int .i64 2, .slice nA nl nc, .slice none 0 0, .slice (some ⟨w.heap.size + 1 + 1 + 1 + 1 + 1, 0, none⟩) 2 2, .slice (some ⟨w1.heap.size + 1 + 1 + 1, 0, none⟩) 1 1]) Tryz.underlying27 rfl (by kernel_rfl)) rfl ?_
  have hy1' := hk.blk hy1 (by simp; omega)
  have hy2' := hk.blk hy2 (by simp; omega)
  have hy3' := hk.blk hy3 (by simp; omega)
  refine ⟨nA, nl, nc, none, 0, 0, _, 2, 2, _, 1, 1, rfl, ⟨by simp [evP, withP, I64], (HP.out.names.ext hbe).keptR hk (fun _ ad e => by have := HN1.out ad e; simp; omega) (fun _ _ _ h => h), SlIs.nil _ _, ?_, ?_⟩, ?_⟩
  · exact ev_sl' (n := w.heap.size) fun i cs t h0 h => hk.blk ((HX.out i cs t h).bel hbe) (by simp; omega)
  · refine sl_of_cells hy3' rfl (by simp) (fun i x hx => ?_)
    match i, hx with
    | 0, hx =>
      have hx' : evM = x := Option.some.inj hx
      subst hx'
      refine ⟨_, ⟨_, _, rfl, by simp [evM, I64], i2 _ _ _ _ hy1' (by simp [I64]) (by simp [I64]), i2 _ _ _ _ hy2' (by simp [I64]) (by simp [I64])⟩, fun j u hu => ?_⟩
      match j, hu with
      | 0, hu => exact hu
      | 1, hu => exact hu
      | 2, hu => exact hu
      | j + 3, hu => simp at hu
    | i + 1, hx => simp [evP] at hx
  · exact Kept.below (HB1.out.trans (hbe.mono (by omega))) hk (by have := hbe.size; omega) (by simp)
end Go.Proofs.YtdkjanbfheehoaaGreat
/- Contract: stable.Is, where the program or the set is wrong, or the set is too large for a disjunctive program. -/
namespace Go.Proofs.YtdkjanbfheehoaaGreat
open Go.RowKit

set_option maxRecDepth 100000 in
set_option maxHeartbeats 4000000 in
theorem stableIs_err (p : GProg) (nA : Option Addr) (nl nc : Nat) (sA : Option Addr) (sl sc : Nat) (rA : Option Addr) (rl rc : Nat) (mA : Option Addr) (ml mc : Nat) (xA : Option Addr) (xl xc : Nat) (m : List Int) (w : World) (hp : ProgIn w p nA nl nc sA sl sc rA rl rc mA ml mc) (hm : SlIs intR w xA xl xc m) (hc : checkE p m ≠ 0) :
    Calls Tryz.prog 24 #[.agg #[.int .i64 p.n, .slice nA nl nc, .slice sA sl sc, .slice rA rl rc, .slice mA ml mc], .slice xA xl xc] w fun e w' => e = .returned (.tuple #[.bool false, .int .i64 (checkE p m)]) ∧ Below w.heap.size w w' := by
  have cV := fun W (hb : Below w.heap.size w W) => valid_any p nA nl nc sA sl sc rA rl rc mA ml mc W (hp.ext hb)
  have cD := fun W (hb : Below w.heap.size w W) => disjunctive_any p nA nl nc sA sl sc rA rl rc mA ml mc W (hp.ext hb)
  have cS := fun W (hb : Below w.heap.size w W) => set_any xA xl xc m p.n W (hm.ext hb)
  change ∀ W, Below w.heap.size w W → Calls _ _ _ W fun e w' => e = .returned (.bool (disB p)) ∧ Below W.heap.size W w' at cD
  generalize disB p = d at *
  have hce : checkE p m = checkE p m := rfl
  conv at hce => rhs; unfold checkE
  by_cases hv : validE p = 0
  · rw [hv] at cV hce
    generalize hz : incB p.n m = z at *
    cases z with
    | true => exact absurd (hce.trans (by simp)) hc
    | false =>
      have hce : checkE p m = 2 := hce.trans (by simp)
      rw [hce]
      clear hce
      have HP := Lib.hid hp; clear hp
      have HM := Lib.hid hm; clear hm
      have HV := Lib.hid hv; clear hv
      have HZ := Lib.hid hz; clear hz
      have CV := Lib.hid cV; clear cV
      have CS := Lib.hid cS; clear cS
      have CD := Lib.hid cD; clear cD
      have HC := Lib.hid hc; clear hc
      go_enter Tryz.func24, Tryz.ntmps24
      go_wp2_with fail
      go_fit (CV.out _ (bel_alloc _ _)); rintro e w1 ⟨rfl, hb1⟩
      have hx1 := (Blk.new w 27 #[.int .i64 p.n, .slice nA nl nc, .slice sA sl sc, .slice rA rl rc, .slice mA ml mc]).bel hb1
      obtain ⟨p0, p1, p2, p3, p4, p5⟩ := pcells hx1
      have HB1 := Lib.hid (bel_trans (bel_alloc _ _) hb1)
      clear hb1
      have HX1 := Lib.hid hx1; clear hx1
      go_wp2_with fail
      go_fit (CD.out _ HB1.out); rintro e w2 ⟨rfl, hb2⟩
      have hx2 := HX1.out.bel hb2
      have HB2 := Lib.hid (bel_trans HB1.out hb2)
      clear hb2
      clear p0 p1 p2 p3 p4 p5
      obtain ⟨p0, p1, p2, p3, p4, p5⟩ := pcells hx2
      have HX2 := Lib.hid hx2; clear hx2
      go_wp2_with fail
      go_fit (CS.out _ HB2.out); rintro e w3 ⟨rfl, rfl⟩
      go_wp2_with fail
      go_ret2
      exact ⟨rfl, HB2.out⟩
  · rw [if_pos hv] at hce
    rw [hce]
    generalize validE p = v at *
    have q1 : (v != 0) = true := by simpa using hv
    clear hce
    have HP := Lib.hid hp; clear hp
    have HM := Lib.hid hm; clear hm
    have HV := Lib.hid hv; clear hv
    have CV := Lib.hid cV; clear cV
    have CD := Lib.hid cD; clear cD
    have CS := Lib.hid cS; clear cS
    have HC := Lib.hid hc; clear hc
    go_enter Tryz.func24, Tryz.ntmps24
    go_wp2_with fail
    go_fit (CV.out _ (bel_alloc _ _)); rintro e w1 ⟨rfl, hb1⟩
    have hx1 := (Blk.new w 27 #[.int .i64 p.n, .slice nA nl nc, .slice sA sl sc, .slice rA rl rc, .slice mA ml mc]).bel hb1
    obtain ⟨p0, p1, p2, p3, p4, p5⟩ := pcells hx1
    have HB1 := Lib.hid (bel_trans (bel_alloc _ _) hb1)
    clear hb1
    have HX1 := Lib.hid hx1; clear hx1
    go_wp2_with fail
    go_fit (CD.out _ HB1.out); rintro e w2 ⟨rfl, hb2⟩
    have HB2 := Lib.hid (bel_trans HB1.out hb2)
    clear hb2
    go_wp2_with fail
    go_ret2
    exact ⟨rfl, HB2.out⟩
end Go.Proofs.YtdkjanbfheehoaaGreat

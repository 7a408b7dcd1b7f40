/- Contracts: ostlerlaw20.Lists, Small, With, has; slices of rules and of sets laid out as constants. -/
import Derived.Test.YtdmcclfagjgcgaaGreatSwa
import Derived.Test.YtdmcclfagjgcgaaGreatMdp
import Derived.Test.YtdmcclfagjgcgaaGreatG4
namespace Go.Proofs.YtdmcclfagjgcgaaGreat
open Go.RowKit

set_option maxRecDepth 100000 in
set_option maxHeartbeats 2000000 in
theorem lists_any (aA : Option Addr) (al ac : Nat) (bA : Option Addr) (bl bc : Nat) (xs ys : List (List Int)) (w : World) (ha : SlIs (slR intR) w aA al ac xs) (hb : SlIs (slR intR) w bA bl bc ys) :
    Calls Tryz.prog 71 #[.slice aA al ac, .slice bA bl bc] w fun e w' => e = .returned (.bool (decide (xs = ys))) ∧ Below w.heap.size w w' := by
  have hl := ha.cap
  have hm := ha.max
  have hl2 := hb.cap
  have hm2 := hb.max
  have la := Lib.hid ha.len
  have lb := Lib.hid hb.len
  have HA := Lib.hid ha; clear ha
  have HB := Lib.hid hb; clear hb
  by_cases hne : al = bl
  · subst hne
    go_enter Tryz.func71, Tryz.ntmps71
    go_wp2
    go_loopw [13] (fun i wr => ∃ k : Nat, k ≤ al ∧ i = .int .i64 k ∧ Below w.heap.size w wr ∧ decide (xs = ys) = decide (xs.drop k = ys.drop k)) (fun i _ => al - (intOf i).toNat)
    case atStart => exact ⟨0, Nat.zero_le _, rfl, Below.refl _ _, rfl⟩
    case round =>
      obtain ⟨k, hk, rfl, hbw, hs⟩ := hrel
      have H1 := Lib.hid (HA.out.ext hbw)
      have H2 := Lib.hid (HB.out.ext hbw)
      have HBW := Lib.hid hbw
      clear hbw
      have HS := Lib.hid hs; clear hs
      by_cases hlt : k < al
      · obtain ⟨x, hx, hd⟩ := HA.out.drop hlt
        obtain ⟨y, hy, hd2⟩ := HB.out.drop hlt
        obtain ⟨b, off, hA, hl, hc, rfl, _, f0, g1⟩ := H1.out.set hx
        obtain ⟨b', off', hA', hl', hc', rfl, _, e0, p1⟩ := H2.out.set hy
        have HX := Lib.hid hx; clear hx
        have HD := Lib.hid hd; clear hd
        have HY := Lib.hid hy; clear hy
        have HD2 := Lib.hid hd2; clear hd2
        have G1 := Lib.hid g1; clear g1
        have P1 := Lib.hid p1; clear p1
        have i0 : (0 : Int) ≤ (k : Int) := by omega
        have i1 : (k : Int) < (al : Int) := by omega
        by_cases he : x = y
        · have HE := Lib.hid he
          have heb : decide (x = y) = true := decide_eq_true he
          clear he
          have hct := fun W hb => heb ▸ lawInts_any hA hl hc hA' hl' hc' x y W (G1.out.ext hb) (P1.out.ext hb)
          have HCT := Lib.hid hct
          clear hct heb
          go_wp2_with fail
          refine wp_region_later [(⟨b, off + k, none⟩, .slice hA hl hc), (⟨b', off' + k, none⟩, .slice hA' hl' hc')] (by kernel_rfl) (by kernel_rfl) (by simp [go_sem, *]) ?_
          intro hk; simp only [List.forall_mem_cons] at hk; obtain ⟨k1_0, k1_1, kz⟩ := hk; clear kz
          repeat go_big_quiet_step ((first | (go_at_call 37; exact Calls.later (HCT.out _ (Later.h _)))))
          refine wpQuiet_nil ?_
          rintro w2 ⟨u1, rfl⟩
          have HU1 := Lib.hid u1.h
          clear k1_0 k1_1
          go_wp2_with fail
          go_roundw
          case rel => exact ⟨k + 1, by omega, by go_num, bel_trans HBW.out HU1.out, by rw [HS.out, HD.out, HD2.out, eq_cons, decide_eq_true HE.out, Bool.true_and]⟩
          case measure => simp [intOf]; omega
        · have HE := Lib.hid he
          have heb : decide (x = y) = false := decide_eq_false he
          clear he
          have hct := fun W hb => heb ▸ lawInts_any hA hl hc hA' hl' hc' x y W (G1.out.ext hb) (P1.out.ext hb)
          have HCT := Lib.hid hct
          clear hct heb
          go_wp2_with fail
          refine wp_region_later [(⟨b, off + k, none⟩, .slice hA hl hc), (⟨b', off' + k, none⟩, .slice hA' hl' hc')] (by kernel_rfl) (by kernel_rfl) (by simp [go_sem, *]) ?_
          intro hk; simp only [List.forall_mem_cons] at hk; obtain ⟨k1_0, k1_1, kz⟩ := hk; clear kz
          repeat go_big_quiet_step ((first | (go_at_call 37; exact Calls.later (HCT.out _ (Later.h _)))))
          refine wpQuiet_nil ?_
          rintro w2 ⟨u1, rfl⟩
          have HU1 := Lib.hid u1.h
          clear k1_0 k1_1
          go_wp2_with fail
          go_ret
          exact ⟨ret_bool (by rw [HS.out, HD.out, HD2.out, eq_cons, decide_eq_false HE.out, Bool.false_and]), bel_trans HBW.out HU1.out⟩
      · have hd := HA.out.stop (k := k) (by omega)
        have hd2 := HB.out.stop (k := k) (by omega)
        have HD := Lib.hid hd; clear hd
        have HD2 := Lib.hid hd2; clear hd2
        go_wp2
        go_ret
        exact ⟨ret_bool (by rw [HS.out, HD.out, HD2.out]; rfl), HBW.out⟩
  · have he : xs ≠ ys := fun e => hne (by rw [la.out, lb.out, e])
    have HE := Lib.hid he; clear he
    go_enter Tryz.func71, Tryz.ntmps71
    go_wp2
    go_ret
    exact ⟨ret_bool (decide_eq_false HE.out).symm, Below.refl _ _⟩

def smallB (p : GProg) : Bool := fewB p && decide (p.n ≤ 6) && decide (validE p = 0)
theorem small_is {p : GProg} (h : smallB p = true) : fewB p = true ∧ p.n ≤ 6 ∧ validE p = 0 := by
  unfold smallB at h
  simp only [Bool.and_eq_true, decide_eq_true_eq] at h
  exact ⟨h.1.1, h.1.2, h.2⟩
theorem small_P {p : GProg} (h : smallB p = true) : SmallP p := by
  obtain ⟨h1, h2, h3⟩ := small_is h
  exact ⟨validE_is h3, valid_n h3, by omega, by have := (few_head h1).1; omega⟩

set_option maxRecDepth 100000 in
set_option maxHeartbeats 2000000 in
theorem small_any (p : GProg) (nA : Option Addr) (nl nc : Nat) (sA : Option Addr) (sl sc : Nat) (rA : Option Addr) (rl rc : Nat) (mA : Option Addr) (ml mc : Nat) (w : World) (hp : ProgIn w p nA nl nc sA sl sc rA rl rc mA ml mc) :
    Calls Tryz.prog 21 #[.agg #[.int .i64 p.n, .slice nA nl nc, .slice sA sl sc, .slice rA rl rc, .slice mA ml mc]] w fun e w' => e = .returned (.bool (smallB p)) ∧ Below w.heap.size w w' := by
  have cF := fun W (hb : Below w.heap.size w W) => few_any p nA nl nc sA sl sc rA rl rc mA ml mc W (hp.ext hb)
  have cV := fun W (hb : Below w.heap.size w W) => valid_any p nA nl nc sA sl sc rA rl rc mA ml mc W (hp.ext hb)
  have hs : smallB p = (fewB p && decide (p.n ≤ 6) && decide (validE p = 0)) := rfl
  generalize smallB p = sm at *
  cases hf : fewB p with
  | false =>
    rw [hf] at cF hs
    simp only [Bool.false_and] at hs
    subst hs
    have HF := Lib.hid hf; clear hf
    have CF := Lib.hid cF; clear cF
    have CV := Lib.hid cV; clear cV
    have HP := Lib.hid hp; clear hp
    go_enter Tryz.func21, Tryz.ntmps21
    go_wp2_with fail
    go_fit (CF.out _ (bel_alloc _ _)); rintro e w1 ⟨rfl, hb1⟩
    have HB1 := Lib.hid (bel_trans (bel_alloc _ _) hb1)
    clear hb1
    go_wp2_with fail
    go_ret
    exact ⟨rfl, HB1.out⟩
  | true =>
    rw [hf] at cF hs
    by_cases h6 : p.n ≤ 6
    · have d6 : decide (p.n ≤ 6) = true := decide_eq_true h6
      rw [d6] at hs
      simp only [Bool.true_and] at hs
      generalize validE p = v at *
      by_cases hv : v = 0
      · subst hv
        simp only [decide_true] at hs
        subst hs
        have HF := Lib.hid hf; clear hf
        have CF := Lib.hid cF; clear cF
        have CV := Lib.hid cV; clear cV
        have HP := Lib.hid hp; clear hp
        go_enter Tryz.func21, Tryz.ntmps21
        go_wp2_with fail
        go_fit (CF.out _ (bel_alloc _ _)); rintro e w1 ⟨rfl, hb1⟩
        have hx1 := (Blk.new w 27 #[.int .i64 p.n, .slice nA nl nc, .slice sA sl sc, .slice rA rl rc, .slice mA ml mc]).bel hb1
        obtain ⟨p0, p1, p2, p3, p4, p5⟩ := pcells hx1
        have HB1 := Lib.hid (bel_trans (bel_alloc _ _) hb1)
        clear hb1
        have HX1 := Lib.hid hx1; clear hx1
        go_wp2_with fail
        go_fit (CV.out _ HB1.out); rintro e w2 ⟨rfl, hb2⟩
        have HB2 := Lib.hid (bel_trans HB1.out hb2)
        clear hb2
        go_wp2_with fail
        go_ret
        exact ⟨rfl, HB2.out⟩
      · have q1 : (v == 0) = false := by simpa using hv
        simp only [decide_eq_false hv] at hs
        subst hs
        have HF := Lib.hid hf; clear hf
        have CF := Lib.hid cF; clear cF
        have CV := Lib.hid cV; clear cV
        have HP := Lib.hid hp; clear hp
        have HV := Lib.hid hv; clear hv
        go_enter Tryz.func21, Tryz.ntmps21
        go_wp2_with fail
        go_fit (CF.out _ (bel_alloc _ _)); rintro e w1 ⟨rfl, hb1⟩
        have hx1 := (Blk.new w 27 #[.int .i64 p.n, .slice nA nl nc, .slice sA sl sc, .slice rA rl rc, .slice mA ml mc]).bel hb1
        obtain ⟨p0, p1, p2, p3, p4, p5⟩ := pcells hx1
        have HB1 := Lib.hid (bel_trans (bel_alloc _ _) hb1)
        clear hb1
        have HX1 := Lib.hid hx1; clear hx1
        go_wp2_with fail
        go_fit (CV.out _ HB1.out); rintro e w2 ⟨rfl, hb2⟩
        have HB2 := Lib.hid (bel_trans HB1.out hb2)
        clear hb2
        go_wp2_with fail
        go_ret
        exact ⟨rfl, HB2.out⟩
    · have d6 : decide (p.n ≤ 6) = false := decide_eq_false h6
      rw [d6] at hs
      simp only [Bool.true_and, Bool.false_and] at hs
      subst hs
      have HF := Lib.hid hf; clear hf
      have CF := Lib.hid cF; clear cF
      have CV := Lib.hid cV; clear cV
      have HP := Lib.hid hp; clear hp
      go_enter Tryz.func21, Tryz.ntmps21
      go_wp2_with fail
      go_fit (CF.out _ (bel_alloc _ _)); rintro e w1 ⟨rfl, hb1⟩
      have hx1 := (Blk.new w 27 #[.int .i64 p.n, .slice nA nl nc, .slice sA sl sc, .slice rA rl rc, .slice mA ml mc]).bel hb1
      obtain ⟨p0, p1, p2, p3, p4, p5⟩ := pcells hx1
      have HB1 := Lib.hid (bel_trans (bel_alloc _ _) hb1)
      clear hb1
      have HX1 := Lib.hid hx1; clear hx1
      go_wp2_with fail
      go_ret
      exact ⟨rfl, HB1.out⟩

set_option maxRecDepth 100000 in
set_option maxHeartbeats 1000000 in
theorem with20_any (rA : Option Addr) (rl rc : Nat) (rs : List GRule) (n : Nat) (w : World) (h : SlIs ruleR w rA rl rc rs) (hn : n ≤ 4000) :
    Calls Tryz.prog 24 #[.int .i64 (n : Int), .slice rA rl rc] w fun e w' => ∃ (nA : Option Addr) (nl nc : Nat), e = .returned (.agg #[.int .i64 (n : Int), .slice nA nl nc, .slice none 0 0, .slice rA rl rc, .slice none 0 0]) ∧ ProgIn w' (withP (n : Int) rs) nA nl nc none 0 0 rA rl rc none 0 0 ∧ Below w.heap.size w w' ∧ (∀ ad, nA = some ad → w.heap.size ≤ ad.block) := by
  have hmk := make_str n (by omega)
  have n0 : (0 : Int) ≤ (n : Int) := by omega
  have n1 : (n : Int) ≤ 4000 := by omega
  have H := Lib.hid h; clear h
  go_enter Tryz.func24, Tryz.ntmps24
  go_wp2_with fail
  change bodyPost _ _ _ _ _ (allocs w (wthO n rA rl rc w.heap.size))
  refine bodyPost_ret (results_cell_row rfl _ _ (w.heap.size + 0) 27 _ (0, 0) _ rfl (allocs_heap (wthO n rA rl rc w.heap.size) w 0 _ rfl) Tryz.underlying27 rfl (by kernel_rfl)) rfl ?_
  refine ⟨some ⟨w.heap.size + 1, 0, none⟩, n, n, rfl, ⟨by constructor <;> simp [withP] <;> omega, ?_, SlIs.nil _ _, H.out.ext (allocs_bel _ _), SlIs.nil _ _⟩, allocs_bel _ _, fun ad e => by cases e; simp⟩
  refine sl_of_cells (allocs_blk (os := wthO n rA rl rc w.heap.size) 1 rfl) (by simp [withP]) (by omega) (fun i x hx => ?_)
  have hi : i < n := by
    have := (List.getElem?_eq_some_iff.1 hx).1
    simpa [withP] using this
  have hx' : x = ByteArray.empty := by
    simp only [withP, Int.toNat_natCast] at hx
    rw [List.getElem?_replicate, if_pos hi] at hx
    exact (Option.some.inj hx).symm
  subst hx'
  refine ⟨[.string ByteArray.empty], ⟨rfl, by simp [maxLen]⟩, fun j u hu => ?_⟩
  match j, hu with
  | 0, hu =>
    have hu' : Value.string ByteArray.empty = u := Option.some.inj hu
    subst hu'
    exact valCells_get n (fun _ => .string ByteArray.empty) (i * 1 + 0) (by omega)
  | j + 1, hu => simp at hu

set_option maxRecDepth 100000 in
set_option maxHeartbeats 1000000 in
theorem has_any (p : GProg) (nA : Option Addr) (nl nc : Nat) (sA : Option Addr) (sl sc : Nat) (rA : Option Addr) (rl rc : Nat) (mA : Option Addr) (ml mc : Nat) (xA : Option Addr) (xl xc : Nat) (want : List (List Int)) (w : World) (hp : ProgIn w p nA nl nc sA sl sc rA rl rc mA ml mc) (hx : SlIs (slR intR) w xA xl xc want) (hv : validE p = 0) (hs : SmallP p) :
    Calls Tryz.prog 72 #[.agg #[.int .i64 p.n, .slice nA nl nc, .slice sA sl sc, .slice rA rl rc, .slice mA ml mc], .slice xA xl xc] w fun e w' => e = .returned (.bool (decide (allL p = want))) ∧ Below w.heap.size w w' := by
  have cA := all_any p nA nl nc sA sl sc rA rl rc mA ml mc (w.alloc (.cells #[.int .i64 p.n, .slice nA nl nc, .slice sA sl sc, .slice rA rl rc, .slice mA ml mc] 27)) (hp.ext (bel_alloc _ _)) hv hs
  generalize allL p = all at *
  have HP := Lib.hid hp; clear hp
  have HX := Lib.hid hx; clear hx
  have HV := Lib.hid hv; clear hv
  have HS := Lib.hid hs; clear hs
  have CA := Lib.hid cA; clear cA
  go_enter Tryz.func72, Tryz.ntmps72
  go_wp2_with fail
  go_fit CA.out; rintro e w1 ⟨A, l, c, rfl, hsl, hb1⟩
  have hx1 := HX.out.ext (bel_trans (bel_alloc _ _) hb1)
  have HB1 := Lib.hid (bel_trans (bel_alloc _ _) hb1)
  clear hb1
  have HX1 := Lib.hid hx1; clear hx1
  have HSL := Lib.hid hsl; clear hsl
  go_wp2_with fail
  go_fit (lists_any A l c xA xl xc all want _ HSL.out HX1.out); rintro e w2 ⟨rfl, hb2⟩
  have HB2 := Lib.hid (bel_trans HB1.out hb2)
  clear hb2
  go_wp2_with fail
  go_ret
  exact ⟨rfl, HB2.out⟩

/-- Cells that read as rules, one behind the other. -/
def RulesAt (W : World) : List Value → List GRule → Prop
  | c0 :: c1 :: c2 :: c3 :: c4 :: c5 :: r, x :: xs => c0 = .bool x.choice ∧ Ints W c1 x.head ∧ c2 = .bool x.sum ∧ c3 = .int .i64 x.bound ∧ I64 x.bound ∧ Ints W c4 x.body ∧ Ints W c5 x.w ∧ RulesAt W r xs
  | [], [] => True
  | _, _ => False
theorem rulesAt_get {W : World} : ∀ (xs : List GRule) (cs : List Value), RulesAt W cs xs → ∀ i x, xs[i]? = some x → ∃ c, ruleR.is W c x ∧ ∀ j u, c[j]? = some u → cs[i * 6 + j]? = some u
  | [], _, _, i, x, hx => by simp at hx
  | y :: ys, c0 :: c1 :: c2 :: c3 :: c4 :: c5 :: r, h, 0, x, hx => by
    simp at hx; subst hx
    obtain ⟨rfl, h1, rfl, rfl, h2, h3, h4, _⟩ := h
    refine ⟨_, ⟨c1, c4, c5, rfl, h1, h2, h3, h4⟩, fun j u hu => ?_⟩
    match j, hu with
    | 0, hu => exact hu
    | 1, hu => exact hu
    | 2, hu => exact hu
    | 3, hu => exact hu
    | 4, hu => exact hu
    | 5, hu => exact hu
    | j + 6, hu => simp at hu
  | y :: ys, c0 :: c1 :: c2 :: c3 :: c4 :: c5 :: r, h, i + 1, x, hx => by
    obtain ⟨c, h1, h2⟩ := rulesAt_get ys r h.2.2.2.2.2.2.2 i x (by simpa using hx)
    refine ⟨c, h1, fun j u hu => ?_⟩
    rw [show (i + 1) * 6 + j = (i * 6 + j) + 6 from by omega]
    exact h2 j u hu
theorem sl_rulesAt {W : World} {g l : Nat} {t : TypeId} {cs : List Value} {xs : List GRule} (h : Blk W g t cs.toArray) (hc : RulesAt W cs xs) (hl : l = xs.length) (hs : l ≤ 17592186044416) : SlIs ruleR W (some ⟨g, 0, none⟩) l l xs :=
  sl_of_cells h hl hs (fun i x hx => by
    obtain ⟨c, h1, h2⟩ := rulesAt_get xs cs hc i x hx
    exact ⟨c, h1, fun j u hu => by simpa [ruleR] using h2 j u hu⟩)
/-- Cells that read as sets. -/
def SetsAt (W : World) : List Value → List (List Int) → Prop
  | c :: r, x :: xs => Ints W c x ∧ SetsAt W r xs
  | [], [] => True
  | _, _ => False
theorem setsAt_get {W : World} : ∀ (xs : List (List Int)) (cs : List Value), SetsAt W cs xs → ∀ i x, xs[i]? = some x → ∃ c : List Value, (slR intR).is W c x ∧ ∀ (j : Nat) (u : Value), c[j]? = some u → cs[i + j]? = some u
  | [], _, _, i, x, hx => by simp at hx
  | y :: ys, c0 :: r, h, 0, x, hx => by
    simp at hx; subst hx
    refine ⟨[c0], h.1, fun j u hu => ?_⟩
    match j, hu with
    | 0, hu => exact hu
    | j + 1, hu => simp at hu
  | y :: ys, c0 :: r, h, i + 1, x, hx => by
    obtain ⟨c, h1, h2⟩ := setsAt_get ys r h.2 i x (by simpa using hx)
    refine ⟨c, h1, fun j u hu => ?_⟩
    rw [show i + 1 + j = (i + j) + 1 from by omega]
    exact h2 j u hu
theorem sl_setsAt {W : World} {g l : Nat} {t : TypeId} {cs : List Value} {xs : List (List Int)} (h : Blk W g t cs.toArray) (hc : SetsAt W cs xs) (hl : l = xs.length) (hs : l ≤ 17592186044416) : SlIs (slR intR) W (some ⟨g, 0, none⟩) l l xs :=
  sl_of_cells h hl hs (fun i x hx => by
    obtain ⟨c, h1, h2⟩ := setsAt_get xs cs hc i x hx
    exact ⟨c, h1, fun j u hu => by simpa [slR] using h2 j u hu⟩)
theorem SlIs.keptR {α : Type} {R : Rep α} {M : List Nat} {w w' : World} {A : Option Addr} {l c : Nat} {xs : List α} (h : SlIs R w A l c xs) (hk : Kept M w w') (ho : Off M A l) (hr : ∀ cs x, x ∈ xs → R.is w cs x → R.is w' cs x) : SlIs R w' A l c xs := by
  refine ⟨h.1, h.2.1, h.2.2.1, fun h0 => ?_⟩
  obtain ⟨ad, e, hl, hc⟩ := h.2.2.2 h0
  refine ⟨ad, e, Nat.lt_of_lt_of_le hl hk.size, fun i x hx => ?_⟩
  obtain ⟨cs, h1, h2⟩ := hc i x hx
  refine ⟨cs, hr cs x (List.mem_of_getElem? hx) h1, fun j u hu => hk.cell (h2 j u hu) ?_⟩
  have hb : (ad.add (i * R.size + j)).block = ad.block := by unfold Addr.add; split <;> rfl
  rw [hb]
  exact ho h0 ad e
theorem info_prog : (Tryz.prog.info? 27).map (·.size) = some 5 := by kernel_rfl
theorem ints_of {W : World} {A : Option Addr} {l c : Nat} {xs : List Int} (h : SlIs intR W A l c xs) : Ints W (.slice A l c) xs := ⟨A, l, c, rfl, h⟩
theorem ints_nil (W : World) : Ints W (.slice none 0 0) [] := ⟨none, 0, 0, rfl, SlIs.nil _ _⟩
end Go.Proofs.YtdmcclfagjgcgaaGreat

/- Several texts in one: Stb, Mnm, Ea2, Swc, Azr, Exs, Ext, Exv. -/
import Derived.Test.YtdmcclfagjgcgaaGreatG5
import Derived.Test.YtdmcclfagjgcgaaGreatSw5
import Derived.Test.YtdmcclfagjgcgaaGreatIst
import Derived.Test.YtdmcclfagjgcgaaGreatSwa
import Derived.Test.YtdmcclfagjgcgaaGreatSw7
import Derived.Test.YtdmcclfagjgcgaaGreatCln
import Derived.Deep.AppendSrc
import Derived.Test.YtdmcclfagjgcgaaGreatRwo
import Derived.Test.YtdmcclfagjgcgaaGreatGcl
import Derived.Test.YtdmcclfagjgcgaaGreatGD
import Derived.Test.YtdmcclfagjgcgaaGreatSl1
/- Plain: stable models told by what they contain: a set is stable if it is a model and no smaller set satisfies the reduct. -/
namespace Go.Proofs.YtdmcclfagjgcgaaGreat

/-- A literal in the reduct with respect to m, read in s. -/
def litM (m s : List Int) (x : Int) : Bool := if 0 < x then decide (x ∈ s) else !decide (-x ∈ m)
def sumG (f : Int → Bool) : List Int → List Int → Int
  | x :: xs, y :: ys => (if f x then y else 0) + sumG f xs ys
  | _, _ => 0
theorem sumG_congr {f g : Int → Bool} : ∀ (xs ys : List Int), (∀ x ∈ xs, f x = g x) → sumG f xs ys = sumG g xs ys
  | [], _, _ => by simp [sumG]
  | _ :: _, [], _ => by simp [sumG]
  | x :: xs, y :: ys, h => by
    unfold sumG
    rw [h x (by simp), sumG_congr xs ys fun z hz => h z (by simp [hz])]
theorem sumG_true (m : List Int) : ∀ (xs ys : List Int), sumT xs ys m = sumG (fun x => trueB x m) xs ys
  | [], ys => by simp [sumT, sumG]
  | _ :: _, [] => by simp [sumT, sumG]
  | x :: xs, y :: ys => by rw [sumT_cons, sumG, sumG_true m xs ys]
/-- The body of a rule in the reduct with respect to m, read in s. -/
def bodyM (r : GRule) (m s : List Int) : Bool := if r.sum then decide (r.bound ≤ sumG (litM m s) r.body r.w) else r.body.all (litM m s)
theorem litM_self (m : List Int) (x : Int) : litM m m x = trueB x m := rfl
theorem bodyM_self (r : GRule) (m : List Int) : bodyM r m m = bodyB r m := by
  unfold bodyM bodyB
  rw [sumG_true]; rfl
/-- Whether s satisfies what is left of r in the reduct with respect to m. -/
def redB (r : GRule) (m s : List Int) : Bool := !bodyM r m s || (if r.choice then r.head.all (fun a => !decide (a ∈ m) || decide (a ∈ s)) else r.head.any (fun a => decide (a ∈ s)))
theorem sumG_split (m s : List Int) : ∀ (xs ys : List Int), ys.length = xs.length → sumG (litM m s) xs ys = negS m (xs.zip ys) + sumT (xs.filter isPos) (posW (xs.zip ys)) s
  | [], ys, h => by
    have : ys = [] := List.eq_nil_of_length_eq_zero (by simpa using h)
    subst this; simp [sumG, sumT, negS, posW]
  | x :: xs, [], h => by simp at h
  | x :: xs, y :: ys, h => by
    have ih := sumG_split m s xs ys (by simpa using h)
    rw [sumG, ih, List.zip_cons_cons, negS]
    by_cases hx : isPos x = true
    · have h0 : 0 < x := by simpa [isPos] using hx
      have e1 : posW ((x, y) :: xs.zip ys) = y :: posW (xs.zip ys) := by simp [posW, hx]
      rw [List.filter_cons_of_pos hx, e1, sumT_cons, if_neg (by omega : ¬ (x ≤ 0 ∧ -x ∉ m))]
      rw [show litM m s x = trueB x s from by unfold litM trueB; rw [if_pos h0, if_pos h0]]
      omega
    · have h0 : ¬ 0 < x := by simpa [isPos] using hx
      have e1 : posW ((x, y) :: xs.zip ys) = posW (xs.zip ys) := by simp [posW, hx]
      rw [List.filter_cons_of_neg hx, e1]
      unfold litM
      rw [if_neg h0]
      by_cases hm : -x ∈ m
      · rw [if_neg (by simp [hm]), if_neg (fun h => h.2 hm)]; omega
      · rw [if_pos (by simp [hm]), if_pos ⟨by omega, hm⟩]; omega
theorem body_redM {r : GRule} {n : Int} (hi : RuleIs r n) {m : List Int} (hd : dropB r m = false) (s : List Int) : bodyB (posRule r m) s = bodyM r m s := by
  by_cases hs : r.sum = true
  · have hw := wtGo_spec r.w 0 (by omega) (by omega) (hi.wt hs)
    have hsp := sumG_split m s r.body r.w (hi.wlen hs)
    have hnn := sumT_nonneg s (r.body.filter isPos) (posW (zp r)) fun y hy => by
      obtain ⟨x, hx⟩ := posW_mem hy
      have := hw.1 y (List.of_mem_zip hx).2; omega
    change sumG (litM m s) r.body r.w = negS m (zp r) + sumT (r.body.filter isPos) (posW (zp r)) s at hsp
    unfold posRule
    rw [if_pos hs]
    have hb : bodyM r m s = decide (r.bound ≤ sumG (litM m s) r.body r.w) := by unfold bodyM; rw [if_pos hs]
    rw [hb, hsp]
    by_cases hz : r.bound - negS m (zp r) ≤ 0
    · rw [if_pos hz, decide_eq_true (by omega)]; rfl
    · rw [if_neg hz]
      show decide (r.bound - negS m (zp r) ≤ sumT (r.body.filter isPos) (posW (zp r)) s) = _
      rw [Bool.eq_iff_iff, decide_eq_true_eq, decide_eq_true_eq]; omega
  · have hf : r.sum = false := by simpa using hs
    unfold dropB at hd
    rw [hf] at hd
    simp only [Bool.not_false, Bool.true_and, List.any_eq_false] at hd
    unfold posRule bodyB bodyM
    simp only [hf, Bool.false_eq_true, if_false]
    rw [all_filter (p := litM m s) (q := isPos) r.body fun x hx hq => ?_]
    · rw [Bool.eq_iff_iff, List.all_eq_true, List.all_eq_true]
      refine forall_congr' fun x => ?_
      constructor
      · intro h hx
        have h0 : 0 < x := by simpa [isPos] using (List.mem_filter.1 hx).2
        have := h hx
        unfold trueB at this; rw [if_pos h0] at this
        unfold litM; rw [if_pos h0]; exact this
      · intro h hx
        have h0 : 0 < x := by simpa [isPos] using (List.mem_filter.1 hx).2
        have := h hx
        unfold litM at this; rw [if_pos h0] at this
        unfold trueB; rw [if_pos h0]; exact this
    · have := hd x hx
      unfold badL at this
      rw [hq] at this
      simp at this
      have h0 : ¬ 0 < x := by simpa [isPos] using hq
      unfold litM; rw [if_neg h0]; simp [this]
theorem drop_bodyM {r : GRule} {m : List Int} (hd : dropB r m = true) (s : List Int) : bodyM r m s = false := by
  unfold dropB at hd
  simp only [Bool.and_eq_true, Bool.not_eq_true', List.any_eq_true] at hd
  obtain ⟨hf, x, hx, hb⟩ := hd
  unfold bodyM
  rw [hf]
  simp only [Bool.false_eq_true, if_false]
  rw [List.all_eq_false]
  refine ⟨x, hx, ?_⟩
  unfold badL at hb
  simp only [Bool.and_eq_true, Bool.not_eq_true', decide_eq_true_eq] at hb
  have h0 : ¬ 0 < x := by simpa [isPos] using hb.1
  unfold litM; rw [if_neg h0]; simp [hb.2]
theorem satB_headM {r : GRule} {m hs s : List Int} : satB { posRule r m with head := hs } s = (!bodyB (posRule r m) s || hs.any fun a => decide (a ∈ s)) := by
  unfold satB
  rw [show ({ posRule r m with head := hs } : GRule).choice = false from posRule_choice r m, Bool.false_or]
  rfl
theorem red_satM {r : GRule} {n : Int} (hi : RuleIs r n) (m s : List Int) : (redOne m r).all (fun x => satB x s) = redB r m s := by
  unfold redOne
  split
  · rename_i hd
    unfold redB; rw [drop_bodyM hd]; simp
  · rename_i hd
    have hd : dropB r m = false := by simpa using hd
    unfold redB
    rw [← body_redM hi hd s]
    split
    · rename_i hc
      have e : ∀ a : Int, satB ({ posRule r m with head := [a] } : GRule) s = (!bodyB (posRule r m) s || decide (a ∈ s)) := fun a => by rw [satB_headM]; simp
      rw [List.all_map, List.all_filter]
      simp only [Function.comp_def, e]
      cases bodyB (posRule r m) s with
      | false => simp
      | true => simp
    · rename_i hc
      rw [List.all_cons, List.all_nil, Bool.and_true, satB_headM]
theorem red_allM {n : Int} (m s : List Int) : ∀ (rs : List GRule), (∀ r ∈ rs, RuleIs r n) → satL (reductL rs m) s = rs.all (fun r => redB r m s)
  | [], _ => rfl
  | r :: t, h => by
    have ih := red_allM m s t fun x hx => h x (by simp [hx])
    rw [show reductL (r :: t) m = redOne m r ++ reductL t m by simp [reductL], satL_append, ih, List.all_cons]
    rw [← red_satM (h r (by simp)) m s]; rfl
/-- Only what the sets hold of the rule's atoms matters. -/
theorem litM_congr {m s m' s' : List Int} {x : Int} (hm : -x ∈ m ↔ -x ∈ m') (hs : x ∈ s ↔ x ∈ s') : litM m s x = litM m' s' x := by
  unfold litM
  split
  · rw [Bool.eq_iff_iff, decide_eq_true_eq, decide_eq_true_eq]; exact hs
  · rw [show decide (-x ∈ m) = decide (-x ∈ m') from by rw [Bool.eq_iff_iff, decide_eq_true_eq, decide_eq_true_eq]; exact hm]
theorem bodyM_congr {r : GRule} {m s m' s' : List Int} (hm : ∀ x ∈ r.body, (-x ∈ m ↔ -x ∈ m')) (hs : ∀ x ∈ r.body, (x ∈ s ↔ x ∈ s')) : bodyM r m s = bodyM r m' s' := by
  have e : ∀ x ∈ r.body, litM m s x = litM m' s' x := fun x hx => litM_congr (hm x hx) (hs x hx)
  unfold bodyM
  rw [sumG_congr _ _ e]
  rw [show r.body.all (litM m s) = r.body.all (litM m' s') from by
    rw [Bool.eq_iff_iff, List.all_eq_true, List.all_eq_true]
    exact forall_congr' fun x => ⟨fun h hx => by rw [← e x hx]; exact h hx, fun h hx => by rw [e x hx]; exact h hx⟩]
theorem redB_congr {r : GRule} {m s m' s' : List Int} (hm : ∀ x ∈ r.body, (-x ∈ m ↔ -x ∈ m')) (hs : ∀ x ∈ r.body, (x ∈ s ↔ x ∈ s')) (hh : ∀ a ∈ r.head, (a ∈ m ↔ a ∈ m') ∧ (a ∈ s ↔ a ∈ s')) : redB r m s = redB r m' s' := by
  have d : ∀ {a : Int} {u v : List Int}, (a ∈ u ↔ a ∈ v) → decide (a ∈ u) = decide (a ∈ v) := fun h => by rw [Bool.eq_iff_iff, decide_eq_true_eq, decide_eq_true_eq]; exact h
  unfold redB
  rw [bodyM_congr hm hs]
  rw [show (r.head.all fun a => !decide (a ∈ m) || decide (a ∈ s)) = (r.head.all fun a => !decide (a ∈ m') || decide (a ∈ s')) from by
    rw [Bool.eq_iff_iff, List.all_eq_true, List.all_eq_true]
    exact forall_congr' fun a => ⟨fun h ha => by rw [← d (hh a ha).1, ← d (hh a ha).2]; exact h ha, fun h ha => by rw [d (hh a ha).1, d (hh a ha).2]; exact h ha⟩]
  rw [show (r.head.any fun a => decide (a ∈ s)) = (r.head.any fun a => decide (a ∈ s')) from by
    rw [Bool.eq_iff_iff, List.any_eq_true, List.any_eq_true]
    exact exists_congr fun a => ⟨fun ⟨ha, h⟩ => ⟨ha, by rw [← d (hh a ha).2]; exact h⟩, fun ⟨ha, h⟩ => ⟨ha, by rw [d (hh a ha).2]; exact h⟩⟩]
/-- What it is to be stable. -/
theorem isL_sem {p : GProg} (hp : ProgIs p) {m : List Int} (hm : incB p.n m = true) (h0 : 0 ≤ p.n) :
    isL p m = true ↔ (∀ r ∈ p.rules, satB r m = true) ∧ ∀ s : List Int, (∀ x ∈ s, x ∈ m) → (∀ r ∈ p.rules, redB r m s = true) → ∀ x ∈ m, x ∈ s := by
  rw [is_def hp hm h0, Bool.and_eq_true, minL_iff, red_allM m m p.rules hp.rules]
  have hmod : modelB p m = true ↔ ∀ r ∈ p.rules, satB r m = true := by unfold modelB; rw [List.all_eq_true]
  constructor
  · rintro ⟨h1, h2, h3⟩
    refine ⟨hmod.1 h1, fun s hs hr x hx => ?_⟩
    have hf := h3 (m.filter fun x => decide (x ∈ s)) List.filter_sublist (by
      rw [red_allM m _ p.rules hp.rules, List.all_eq_true]
      intro r hr'
      rw [← hr r hr']
      have e : ∀ a : Int, a ∈ m.filter (fun x => decide (x ∈ s)) ↔ a ∈ s := fun a => by
        rw [List.mem_filter, decide_eq_true_eq]
        exact ⟨fun h => h.2, fun h => ⟨hs a h, h⟩⟩
      exact redB_congr (fun _ _ => Iff.rfl) (fun a _ => e a) (fun a _ => ⟨Iff.rfl, e a⟩))
    rw [← hf] at hx
    simpa using (List.mem_filter.1 hx).2
  · rintro ⟨h1, h2⟩
    refine ⟨hmod.2 h1, ?_, fun s hs hsat => ?_⟩
    · rw [List.all_eq_true]
      intro r hr
      have := h1 r hr
      unfold redB
      rw [bodyM_self]
      unfold satB at this
      cases hb : bodyB r m with
      | false => rfl
      | true =>
        rw [hb] at this
        cases hc : r.choice with
        | true => simp
        | false => rw [hc] at this; simpa using this
    · rw [red_allM m s p.rules hp.rules, List.all_eq_true] at hsat
      exact sub_eq hs (inc_pair hm) (h2 s (fun x hx => hs.mem hx) hsat)
end Go.Proofs.YtdmcclfagjgcgaaGreat
/- Contract: stable.Minimal. -/
namespace Go.Proofs.YtdmcclfagjgcgaaGreat
open Go.RowKit

def badRule (n : Int) (r : GRule) : Bool := ruleE r n != 0
def minE (n : Int) (rs : List GRule) (m : List Int) : Int := if n < 0 ∨ 4000 < n ∨ rs.any (badRule n) = true ∨ incB n m = false then 2 else if 12 < m.length then 5 else 0
set_option maxRecDepth 100000 in
set_option maxHeartbeats 1000000 in
theorem min1_any (x : GRule) (hA : Option Addr) (hl hc : Nat) (bA : Option Addr) (bl bc : Nat) (wA : Option Addr) (wl wc : Nat) (a : Nat) (n : Int) (w : World) (hx : RuleIn w x hA hl hc bA bl bc wA wl wc) (hcl : w.cell? ⟨a, 0, none⟩ = some (.int .i64 n)) :
    Calls Tryz.prog 81 #[.agg #[.bool x.choice, .slice hA hl hc, .bool x.sum, .int .i64 x.bound, .slice bA bl bc, .slice wA wl wc], .pointer (some ⟨a, 0, none⟩)] w fun e w' => e = .returned (.bool (badRule n x)) ∧ Below w.heap.size w w' := by
  have hal := World.block_lt_of_cell? w _ hcl
  simp only at hal
  have cR := rule_any x hA hl hc bA bl bc wA wl wc n (w.alloc (.cells #[.bool x.choice, .slice hA hl hc, .bool x.sum, .int .i64 x.bound, .slice bA bl bc, .slice wA wl wc] 37)) (hx.ext (bel_alloc _ _))
  have hb : badRule n x = (ruleE x n != 0) := rfl
  generalize ruleE x n = q at *
  have HX := Lib.hid hx; clear hx
  have CR := Lib.hid cR; clear cR
  have HB := Lib.hid hb; clear hb
  go_enter Tryz.func81, Tryz.ntmps81
  go_wp2_with fail
  go_fit CR.out; rintro e w1 ⟨rfl, hb1⟩
  have HB1 := Lib.hid (bel_trans (bel_alloc _ _) hb1)
  clear hb1
  go_wp2_with fail
  go_ret
  exact ⟨ret_bool (by rw [HB.out]), HB1.out⟩
set_option maxRecDepth 100000 in
set_option maxHeartbeats 2000000 in
theorem stableMinimal_any (n : Int) (rA : Option Addr) (rl rc : Nat) (xA : Option Addr) (xl xc : Nat) (rs : List GRule) (m : List Int) (w : World) (h : SlIs ruleR w rA rl rc rs) (hm : SlIs intR w xA xl xc m) :
    Calls Tryz.prog 30 #[.int .i64 n, .slice rA rl rc, .slice xA xl xc] w fun e w' => e = .returned (.tuple #[.bool (decide (minE n rs m = 0) && minC rs m), .int .i64 (minE n rs m)]) ∧ Below w.heap.size w w' := by
  have hb0 : Below w.heap.size w (w.alloc (.cells #[.int .i64 n] 3)) := bel_alloc _ _
  have cF := fun W (hb : Below ((w.alloc (.cells #[.int .i64 n] 3))).heap.size (w.alloc (.cells #[.int .i64 n] 3)) W) => containsFuncR_any rA rl rc rs 81 #[.pointer (some ⟨w.heap.size, 0, none⟩)] (badRule n) W (h.ext (bel_trans hb0 hb)) (fun args W => by kernel_rfl)
    (fun W' x hA hl hc bA bl bc wA wl wc hb' _ hx => min1_any x hA hl hc bA bl bc wA wl wc w.heap.size n W' hx (((Blk.new w 3 #[.int .i64 n]).bel (bel_trans hb hb')).cell 0))
  have cS := fun W (hb : Below w.heap.size w W) => set_any xA xl xc m n W (hm.ext hb)
  have hME : minE n rs m = (if n < 0 ∨ 4000 < n ∨ rs.any (badRule n) = true ∨ incB n m = false then 2 else if 12 < m.length then 5 else 0) := rfl
  rw [← hm.len] at hME
  have hxc := hm.cap
  have hxm := hm.max
  generalize minE n rs m = me at *
  generalize hq : rs.any (badRule n) = q at *
  generalize hz : incB n m = z at *
  by_cases h0 : n < 0
  · rw [if_pos (.inl h0)] at hME
    subst hME
    have H := Lib.hid h; clear h
    have HM := Lib.hid hm; clear hm
    have CF := Lib.hid cF; clear cF
    have CS := Lib.hid cS; clear cS
    have HQ := Lib.hid hq; clear hq
    have HZ := Lib.hid hz; clear hz
    have HB0 := Lib.hid hb0; clear hb0
    go_enter Tryz.func30, Tryz.ntmps30
    go_wp2_with fail
    go_ret2
    exact ⟨rfl, bel_alloc _ _⟩
  · by_cases h1 : 4000 < n
    · rw [if_pos (.inr (.inl h1))] at hME
      subst hME
      have H := Lib.hid h; clear h
      have HM := Lib.hid hm; clear hm
      have CF := Lib.hid cF; clear cF
      have CS := Lib.hid cS; clear cS
      have HQ := Lib.hid hq; clear hq
      have HZ := Lib.hid hz; clear hz
      have HB0 := Lib.hid hb0; clear hb0
      go_enter Tryz.func30, Tryz.ntmps30
      go_wp2_with fail
      go_ret2
      exact ⟨rfl, bel_alloc _ _⟩
    · have hn0 : 0 ≤ n := by omega
      cases q with
      | true =>
        rw [if_pos (.inr (.inr (.inl rfl)))] at hME
        subst hME
        have H := Lib.hid h; clear h
        have HM := Lib.hid hm; clear hm
        have CF := Lib.hid cF; clear cF
        have CS := Lib.hid cS; clear cS
        have HQ := Lib.hid hq; clear hq
        have HZ := Lib.hid hz; clear hz
        have HB0 := Lib.hid hb0; clear hb0
        go_enter Tryz.func30, Tryz.ntmps30
        go_wp2_with fail
        go_fit (CF.out _ (Below.refl _ _)); rintro e w1 ⟨rfl, hb1⟩
        have HB1 := Lib.hid (bel_trans HB0.out hb1)
        clear hb1
        go_wp2_with fail
        go_ret2
        exact ⟨rfl, HB1.out⟩
      | false =>
        cases z with
        | false =>
          rw [if_pos (.inr (.inr (.inr rfl)))] at hME
          subst hME
          have H := Lib.hid h; clear h
          have HM := Lib.hid hm; clear hm
          have CF := Lib.hid cF; clear cF
          have CS := Lib.hid cS; clear cS
          have HQ := Lib.hid hq; clear hq
          have HZ := Lib.hid hz; clear hz
          have HB0 := Lib.hid hb0; clear hb0
          go_enter Tryz.func30, Tryz.ntmps30
          go_wp2_with fail
          go_fit (CF.out _ (Below.refl _ _)); rintro e w1 ⟨rfl, hb1⟩
          have c0 := ((Blk.new w 3 #[.int .i64 n]).bel hb1).cell 0
          have HB1 := Lib.hid (bel_trans HB0.out hb1)
          clear hb1
          go_wp2_with fail
          go_fit (CS.out _ HB1.out); rintro e w2 ⟨rfl, rfl⟩
          go_wp2_with fail
          go_ret2
          exact ⟨rfl, HB1.out⟩
        | true =>
          rw [if_neg (by simp; omega)] at hME
          by_cases h12 : 12 < xl
          · rw [if_pos h12] at hME
            subst hME
            have k12 : (12 : Int) < (xl : Int) := by omega
            have H := Lib.hid h; clear h
            have HM := Lib.hid hm; clear hm
            have CF := Lib.hid cF; clear cF
            have CS := Lib.hid cS; clear cS
            have HQ := Lib.hid hq; clear hq
            have HZ := Lib.hid hz; clear hz
            have HB0 := Lib.hid hb0; clear hb0
            go_enter Tryz.func30, Tryz.ntmps30
            go_wp2_with fail
            go_fit (CF.out _ (Below.refl _ _)); rintro e w1 ⟨rfl, hb1⟩
            have c0 := ((Blk.new w 3 #[.int .i64 n]).bel hb1).cell 0
            have HB1 := Lib.hid (bel_trans HB0.out hb1)
            clear hb1
            go_wp2_with fail
            go_fit (CS.out _ HB1.out); rintro e w2 ⟨rfl, rfl⟩
            go_wp2_with fail
            go_ret2
            exact ⟨rfl, HB1.out⟩
          · rw [if_neg h12] at hME
            subst hME
            have k12 : ¬ (12 : Int) < (xl : Int) := by omega
            have cM := fun W (hb : Below w.heap.size w W) => minimal_any rA rl rc rs xA xl xc m W (h.ext hb) (hm.ext hb) (by omega)
            generalize minC rs m = mc at *
            have H := Lib.hid h; clear h
            have HM := Lib.hid hm; clear hm
            have CF := Lib.hid cF; clear cF
            have CS := Lib.hid cS; clear cS
            have HQ := Lib.hid hq; clear hq
            have HZ := Lib.hid hz; clear hz
            have HB0 := Lib.hid hb0; clear hb0
            have CM := Lib.hid cM; clear cM
            go_enter Tryz.func30, Tryz.ntmps30
            go_wp2_with fail
            go_fit (CF.out _ (Below.refl _ _)); rintro e w1 ⟨rfl, hb1⟩
            have c0 := ((Blk.new w 3 #[.int .i64 n]).bel hb1).cell 0
            have HB1 := Lib.hid (bel_trans HB0.out hb1)
            clear hb1
            go_wp2_with fail
            go_fit (CS.out _ HB1.out); rintro e w2 ⟨rfl, rfl⟩
            go_wp2_with fail
            go_fit (CM.out _ HB1.out); rintro e w3 ⟨rfl, hb3⟩
            have HB3 := Lib.hid (bel_trans HB1.out hb3)
            clear hb3
            go_wp2_with fail
            go_ret2
            exact ⟨by simp, HB3.out⟩
end Go.Proofs.YtdmcclfagjgcgaaGreat
/- Contracts: stable.All and stable.Best where they answer with an error. -/
namespace Go.Proofs.YtdmcclfagjgcgaaGreat
open Go.RowKit

def allE (p : GProg) : Int := if validE p ≠ 0 then validE p else if 12 < p.n then 5 else 0
set_option maxRecDepth 100000 in
set_option maxHeartbeats 2000000 in
theorem all_err (p : GProg) (nA : Option Addr) (nl nc : Nat) (sA : Option Addr) (sl sc : Nat) (rA : Option Addr) (rl rc : Nat) (mA : Option Addr) (ml mc : Nat) (w : World) (hp : ProgIn w p nA nl nc sA sl sc rA rl rc mA ml mc) (hv : allE p ≠ 0) :
    Calls Tryz.prog 25 #[.agg #[.int .i64 p.n, .slice nA nl nc, .slice sA sl sc, .slice rA rl rc, .slice mA ml mc]] w fun e w' => e = .returned (.tuple #[.slice none 0 0, .int .i64 (allE p)]) ∧ Below w.heap.size w w' := by
  have cV := fun W (hb : Below w.heap.size w W) => valid_any p nA nl nc sA sl sc rA rl rc mA ml mc W (hp.ext hb)
  have hA : allE p = if validE p ≠ 0 then validE p else if 12 < p.n then 5 else 0 := rfl
  by_cases h0 : validE p = 0
  · rw [h0, if_neg (by simp)] at hA
    rw [h0] at cV
    by_cases h12 : 12 < p.n
    · rw [if_pos h12] at hA
      rw [hA]
      have HP := Lib.hid hp; clear hp
      have CV := Lib.hid cV; clear cV
      have HA := Lib.hid hA; clear hA
      have H0 := Lib.hid h0; clear h0
      have HV := Lib.hid hv; clear hv
      go_enter Tryz.func25, Tryz.ntmps25
      go_wp2_with fail
      go_fit (CV.out _ (bel_alloc _ _)); rintro e w1 ⟨rfl, hb1⟩
      have hx1 := (Blk.new w 27 #[.int .i64 p.n, .slice nA nl nc, .slice sA sl sc, .slice rA rl rc, .slice mA ml mc]).bel hb1
      obtain ⟨p0, p1, p2, p3, p4, p5⟩ := pcells hx1
      have HB1 := Lib.hid (bel_trans (bel_alloc _ _) hb1)
      clear hb1
      have HX1 := Lib.hid hx1; clear hx1
      go_wp2_with fail
      go_ret2
      exact ⟨rfl, HB1.out⟩
    · rw [if_neg h12] at hA
      exact absurd hA hv
  · rw [if_pos h0] at hA
    rw [hA]
    generalize validE p = v at *
    have q1 : (v != 0) = true := by simpa using h0
    have HP := Lib.hid hp; clear hp
    have CV := Lib.hid cV; clear cV
    have HA := Lib.hid hA; clear hA
    have H0 := Lib.hid h0; clear h0
    have HV := Lib.hid hv; clear hv
    go_enter Tryz.func25, Tryz.ntmps25
    go_wp2_with fail
    go_fit (CV.out _ (bel_alloc _ _)); rintro e w1 ⟨rfl, hb1⟩
    have HB1 := Lib.hid (bel_trans (bel_alloc _ _) hb1)
    clear hb1
    go_wp2_with fail
    go_ret2
    exact ⟨rfl, HB1.out⟩
set_option maxRecDepth 100000 in
set_option maxHeartbeats 2000000 in
theorem best_err (p : GProg) (nA : Option Addr) (nl nc : Nat) (sA : Option Addr) (sl sc : Nat) (rA : Option Addr) (rl rc : Nat) (mA : Option Addr) (ml mc : Nat) (w : World) (hp : ProgIn w p nA nl nc sA sl sc rA rl rc mA ml mc) (hv : allE p ≠ 0) :
    Calls Tryz.prog 29 #[.agg #[.int .i64 p.n, .slice nA nl nc, .slice sA sl sc, .slice rA rl rc, .slice mA ml mc]] w fun e w' => e = .returned (.tuple #[.slice none 0 0, .slice none 0 0, .int .i64 (allE p)]) ∧ Below w.heap.size w w' := by
  have cA := fun W (hb : Below w.heap.size w W) => all_err p nA nl nc sA sl sc rA rl rc mA ml mc W (hp.ext hb) hv
  generalize allE p = v at *
  have q1 : (v != 0) = true := by simpa using hv
  have HP := Lib.hid hp; clear hp
  have CA := Lib.hid cA; clear cA
  have HV := Lib.hid hv; clear hv
  go_enter Tryz.func29, Tryz.ntmps29
  go_wp2_with fail
  go_fit (CA.out _ (bel_alloc _ _)); rintro e w1 ⟨rfl, hb1⟩
  have HB1 := Lib.hid (bel_trans (bel_alloc _ _) hb1)
  clear hb1
  go_wp2_with fail
  go_ret3
  exact ⟨rfl, HB1.out⟩
end Go.Proofs.YtdmcclfagjgcgaaGreat
/- Contract: stable.Is, where the set is too large for a disjunctive program. -/
namespace Go.Proofs.YtdmcclfagjgcgaaGreat
open Go.RowKit

set_option maxRecDepth 100000 in
set_option maxHeartbeats 4000000 in
theorem stableIs_many (p : GProg) (nA : Option Addr) (nl nc : Nat) (sA : Option Addr) (sl sc : Nat) (rA : Option Addr) (rl rc : Nat) (mA : Option Addr) (ml mc : Nat) (xA : Option Addr) (xl xc : Nat) (m : List Int) (w : World) (hp : ProgIn w p nA nl nc sA sl sc rA rl rc mA ml mc) (hm : SlIs intR w xA xl xc m) (hc : checkE p m = 0) (hl : 12 < xl) (hd : disB p = true) :
    Calls Tryz.prog 28 #[.agg #[.int .i64 p.n, .slice nA nl nc, .slice sA sl sc, .slice rA rl rc, .slice mA ml mc], .slice xA xl xc] w fun e w' => e = .returned (.tuple #[.bool false, .int .i64 5]) ∧ Below w.heap.size w w' := by
  have hv : validE p = 0 := by
    unfold checkE at hc
    split at hc
    · rename_i h; exact absurd hc h
    · rename_i h; simpa using h
  have hinc := (checkE_is hc).2
  have cV := fun W (hb : Below w.heap.size w W) => valid_any p nA nl nc sA sl sc rA rl rc mA ml mc W (hp.ext hb)
  have cD := fun W (hb : Below w.heap.size w W) => disjunctive_any p nA nl nc sA sl sc rA rl rc mA ml mc W (hp.ext hb)
  have cS := fun W (hb : Below w.heap.size w W) => set_any xA xl xc m p.n W (hm.ext hb)
  have hxc := hm.cap
  have hxm := hm.max
  have e1 : (12 : Int) < (xl : Int) := by omega
  rw [hv] at cV
  rw [hinc] at cS
  change ∀ W, Below w.heap.size w W → Calls _ _ _ W fun e w' => e = .returned (.bool (disB p)) ∧ Below W.heap.size W w' at cD
  rw [hd] at cD
  have HP := Lib.hid hp; clear hp
  have HM := Lib.hid hm; clear hm
  have HC := Lib.hid hc; clear hc
  have HD := Lib.hid hd; clear hd
  have CV := Lib.hid cV; clear cV
  have CD := Lib.hid cD; clear cD
  have CS := Lib.hid cS; clear cS
  have HINC := Lib.hid hinc; clear hinc
  have HV := Lib.hid hv; clear hv
  go_enter Tryz.func28, Tryz.ntmps28
  go_wp2_with fail
  go_fit (CV.out _ (bel_alloc _ _)); rintro e w1 ⟨rfl, hb1⟩
  have hx1 := (Blk.new w 27 #[.int .i64 p.n, .slice nA nl nc, .slice sA sl sc, .slice rA rl rc, .slice mA ml mc]).bel hb1
  obtain ⟨p0, p1, p2, p3, p4, p5⟩ := pcells hx1
  have HB1 := Lib.hid (bel_trans (bel_alloc _ _) hb1)
  clear hb1
  have HX1 := Lib.hid hx1; clear hx1
  go_wp2_with fail
  go_fit (CD.out _ HB1.out); rintro e w2 ⟨rfl, hb2⟩
  have hx2 := HX1.out.bel hb2
  have HB2 := Lib.hid (bel_trans HB1.out hb2)
  clear hb2 p0 p1 p2 p3 p4 p5
  obtain ⟨p0, p1, p2, p3, p4, p5⟩ := pcells hx2
  have HX2 := Lib.hid hx2; clear hx2
  go_wp2_with fail
  go_fit (CS.out _ HB2.out); rintro e w3 ⟨rfl, rfl⟩
  go_wp2_with fail
  go_ret2
  exact ⟨rfl, HB2.out⟩
end Go.Proofs.YtdmcclfagjgcgaaGreat
/- append(s, make([]T, k)...): a row of the call's own grows by zeros. -/
namespace Go.Proofs.YtdmcclfagjgcgaaGreat
open Go.RowKit

section
variable {P : Program} (w : World)
theorem zeros_len (z : Array Value) (m : Nat) : (Builtin.zeroCells z m).toList.length = m * z.size := by
  rw [Array.length_toList, size_zeroCells]
theorem zeros_bytes {m by_ : Nat} (hm : m ≤ 1000000) (hby : by_ ≤ 128) : ¬ (281474976710656 < (m : Int) * (by_ : Int)) := by
  have h := Int.ofNat_le.2 (Nat.mul_le_mul hm hby)
  rw [Int.natCast_mul] at h
  omega
theorem run_zeros_room (t tn ty e : TypeId) (i : TypeInfo) (z : Value) (ht : P.underlying t = some (.slice e)) (htn : P.underlying tn = some (.int .i64)) (hi : P.info? e = some i) (hz : i.zero = some z) (hsz : 0 < i.size)
    (g n cap m : Nat) (cur : Array Value) (hg : w.heap[g]? = some (.cells cur e (0, 0))) (hm : m ≤ 1000000) (hm0 : 0 < m) (hby : i.bytes ≤ 128) (hroom : n + m ≤ cap) (hfit : n * i.size + (Builtin.zeroCells z.cells m).toList.length ≤ cur.size) (h1 : ∀ u ∈ (Builtin.zeroCells z.cells m).toList, u.oneCell' = true) :
    (Builtin.append_ #[t, tn] ty #[.slice (some ⟨g, 0, none⟩) n cap, .int .i64 (m : Int)]).run P w = .ok (.slice (some ⟨g, 0, none⟩) (n + m) cap) (w.setRow g (cur.toList.take (n * i.size) ++ (Builtin.zeroCells z.cells m).toList ++ cur.toList.drop (n * i.size + (Builtin.zeroCells z.cells m).toList.length)).toArray) := by
  have hst := run_storeCells_at P g (n * i.size) e (Builtin.zeroCells z.cells m).toList 0 cur w hg (by simpa using hfit) h1
  simp only [Nat.add_zero] at hst
  have h2 : IntKind.i64.wrap (m : Int) = (m : Int) := IntWalk.i64_in _ (by omega)
  have h3 : ¬ ((m : Int) < 0) := by omega
  have h4 := zeros_bytes hm hby
  have h5 : ¬ (m * i.size = 0) := fun h => by rcases Nat.mul_eq_zero.1 h with h | h <;> omega
  simp [Builtin.append_, run_underlying ht, run_underlying htn, sizeOf, typeInfo, zeroValue, hi, hz, hroom, asInt, asIntOf, h2, h3, h4, h5, Addr.add_lit, hst]
theorem run_zeros_none (t tn ty e : TypeId) (i : TypeInfo) (ht : P.underlying t = some (.slice e)) (htn : P.underlying tn = some (.int .i64)) (hi : P.info? e = some i) (A : Option Addr) (n cap : Nat) (hroom : n ≤ cap) :
    (Builtin.append_ #[t, tn] ty #[.slice A n cap, .int .i64 0]).run P w = .ok (.slice A n cap) w := by
  have h2 : IntKind.i64.wrap 0 = 0 := IntWalk.i64_in _ (by omega)
  cases A with
  | none => simp [Builtin.append_, run_underlying ht, run_underlying htn, sizeOf, typeInfo, hi, hroom, asInt, asIntOf, h2]
  | some a => simp [Builtin.append_, run_underlying ht, run_underlying htn, sizeOf, typeInfo, hi, hroom, asInt, asIntOf, h2, storeCells]
theorem run_zeros_grow (t tn ty e : TypeId) (i : TypeInfo) (z : Value) (ht : P.underlying t = some (.slice e)) (htn : P.underlying tn = some (.int .i64)) (hi : P.info? e = some i) (hz : i.zero = some z) (hsz : 0 < i.size)
    (base : Option Addr) (n cap m : Nat) (olds : List Value) (hm : m ≤ 1000000) (hm0 : 0 < m) (hby : i.bytes ≤ 128) (hroom : cap < n + m)
    (hold : (Builtin.firstCells i.size n (.slice base n cap)).run P w.drew = .ok olds.toArray w.drew) (h63 : ((n + m : Nat) : Int) ≤ 9223372036854775807) (hfit : Builtin.nextslicecap (n + m) cap * i.bytes ≤ 281474976710656) :
    (Builtin.append_ #[t, tn] ty #[.slice base n cap, .int .i64 (m : Int)]).run P w =
      .ok (.slice (some ⟨w.heap.size, 0, none⟩) (n + m) (grownCap w (n + m) cap e))
        (w.drew.alloc (.cells ((olds ++ (Builtin.zeroCells z.cells m).toList).toArray ++ Builtin.zeroCells z.cells (grownCap w (n + m) cap e - (n + m))) e)) := by
  have h2 : IntKind.i64.wrap (m : Int) = (m : Int) := IntWalk.i64_in _ (by omega)
  have h3 : ¬ ((m : Int) < 0) := by omega
  have h4 := zeros_bytes hm hby
  have h5 : ¬ (m * i.size = 0) := fun h => by rcases Nat.mul_eq_zero.1 h with h | h <;> omega
  have hn : ¬ (n + m ≤ cap) := by omega
  have h63' : ¬ (9223372036854775807 < ((n : Int) + (m : Int))) := by omega
  have h48' : ¬ (281474976710656 < Builtin.nextslicecap (n + m) cap * i.bytes) := by omega
  simp [Builtin.append_, run_underlying ht, run_underlying htn, sizeOf, typeInfo, zeroValue, hi, hz, asInt, asIntOf, h2, h3, h4, h5, hn, h63', h48', Question.forced, hold, newRow, grownCap]
  congr 2
  apply Array.ext'
  simp [List.append_assoc]
theorem run_append_zeros_at (base : Nat) (t tn ty e : TypeId) (i : TypeInfo) (z : Value) (ht : P.underlying t = some (.slice e)) (htn : P.underlying tn = some (.int .i64)) (hi : P.info? e = some i) (hz : i.zero = some z) (hzs : z.cells.size = i.size) (hsz : 0 < i.size) (hby : i.bytes ≤ 128)
    (h1 : ∀ k, ∀ u ∈ (Builtin.zeroCells z.cells k).toList, u.oneCell' = true)
    (v : Value) (n : Nat) (xs : List Value) (hown : w.ownsRow base e i.size v n xs) (m : Nat) (hm : m ≤ 1000000) (hnm : n ≤ 1000000) (hbase : base ≤ w.heap.size) :
    ∃ v' w', (Builtin.append_ #[t, tn] ty #[v, .int .i64 (m : Int)]).run P w = .ok v' w' ∧ w'.ownsRow base e i.size v' (n + m) (xs ++ (Builtin.zeroCells z.cells m).toList) ∧ w.grownBy w' v.ownBlock ∧ (v'.ownBlock = v.ownBlock ∨ v'.ownBlock = some w.heap.size) := by
  have hzl := zeros_len z.cells m
  rw [hzs] at hzl
  have hbytes : (n + m) * i.bytes ≤ 140737488355328 := Nat.le_trans (Nat.mul_le_mul (show n + m ≤ 2000000 by omega) hby) (by omega)
  have hlen : (xs ++ (Builtin.zeroCells z.cells m).toList).length = (n + m) * i.size := by rw [List.length_append, hown.1, hzl, Nat.add_mul]
  have h63 : n + m ≤ maxLen := by unfold maxLen; omega
  have grown : ∀ (old : Nat), old < n + m → ∀ (row : Option Nat),
      (w.drew.alloc (.cells ((xs ++ (Builtin.zeroCells z.cells m).toList).toArray ++ Builtin.zeroCells z.cells (grownCap w (n + m) old e - (n + m))) e)).ownsRow base e i.size
        (.slice (some ⟨w.heap.size, 0, none⟩) (n + m) (grownCap w (n + m) old e)) (n + m) (xs ++ (Builtin.zeroCells z.cells m).toList) ∧
      w.grownBy (w.drew.alloc (.cells ((xs ++ (Builtin.zeroCells z.cells m).toList).toArray ++ Builtin.zeroCells z.cells (grownCap w (n + m) old e - (n + m))) e)) row := by
    intro old ho row
    have hge := grownCap_ge w (n + m) old e
    have hcm : grownCap w (n + m) old e ≤ maxLen := grownCap_le_maxLen w (n + m) old e h63
    refine ⟨⟨hlen, .inr ⟨w.heap.size, _, _, rfl, hbase, heap_alloc_new w.drew _, hge, hcm, ?_, ?_⟩⟩, ⟨rfl, rfl, rfl, by simp, fun k hk _ => Below.heap_alloc w.drew _ k hk⟩⟩
    · rw [Array.size_append, List.size_toArray, size_zeroCells, hzs, hlen, ← Nat.add_mul]
      congr 1
      omega
    · simp only [Array.toList_append]
      rw [← hlen]
      exact List.take_left
  by_cases hm0 : m = 0
  · subst hm0
    have hn : (Builtin.zeroCells z.cells 0).toList = [] := List.eq_nil_of_length_eq_zero (by rw [hzl]; simp)
    rw [hn, List.append_nil]
    refine ⟨v, w, ?_, hown, ⟨rfl, rfl, rfl, Nat.le_refl _, fun _ _ _ => rfl⟩, .inl rfl⟩
    rcases hown.2 with ⟨rfl, rfl⟩ | ⟨g, cap, cur, rfl, hbg, hg, hnc, hcm, hcs, htake⟩
    · exact run_zeros_none w t tn ty e i ht htn hi none 0 0 (Nat.le_refl _)
    · exact run_zeros_none w t tn ty e i ht htn hi _ n cap hnc
  · rcases hown.2 with ⟨rfl, rfl⟩ | ⟨g, cap, cur, rfl, hbg, hg, hnc, hcm, hcs, htake⟩
    · have hx : xs = [] := List.eq_nil_of_length_eq_zero (by simpa using hown.1)
      subst hx
      have hr := run_zeros_grow (P := P) w t tn ty e i z ht htn hi hz hsz none 0 0 m [] hm (by omega) hby (by omega) (by simp [Builtin.firstCells]) (by omega) (growslice_fits (by omega) hbytes)
      have hgr := grown 0 (by omega) (Value.ownBlock (.slice none 0 0))
      exact ⟨_, _, hr, hgr.1, hgr.2, .inr rfl⟩
    · by_cases hroom : n + m ≤ cap
      · have hfit : n * i.size + (Builtin.zeroCells z.cells m).toList.length ≤ cur.size := by rw [hzl, hcs, ← Nat.add_mul]; exact Nat.mul_le_mul_right _ hroom
        have hr := run_zeros_room (P := P) w t tn ty e i z ht htn hi hz hsz g n cap m cur hg hm (by omega) hby hroom hfit (h1 m)
        refine ⟨_, _, hr, ⟨hlen, .inr ⟨g, cap, _, rfl, hbg, setRow_heap w g cur _ e _ hg, hroom, hcm, ?_, ?_⟩⟩, ⟨rfl, rfl, rfl, by simp, fun k _ hk => setRow_other w g k _ (fun e => hk (by simp [Value.ownBlock, e]))⟩, Or.inl rfl⟩
        · simp only [List.size_toArray, List.length_append, List.length_take, List.length_drop, Array.length_toList]
          simp only [Array.length_toList] at hfit
          omega
        · rw [htake, ← hlen]
          exact List.take_left
      · have holds : ∀ j u, xs[j]? = some u → w.cell? ((⟨g, 0, none⟩ : Addr).add j) = some u := hown.cells (g := g) rfl
        have hr := run_zeros_grow (P := P) w t tn ty e i z ht htn hi hz hsz (some ⟨g, 0, none⟩) n cap m xs hm (by omega) hby (by omega) (run_firstCells_some w.drew i.size n ⟨g, 0, none⟩ n cap xs hown.1 (by simpa using holds)) (by unfold maxLen at h63; omega) (growslice_fits (by omega) hbytes)
        have hgr := grown cap (by omega) (Value.ownBlock (.slice (some ⟨g, 0, none⟩) n cap))
        exact ⟨_, _, hr, hgr.1, hgr.2, .inr rfl⟩
end
end Go.Proofs.YtdmcclfagjgcgaaGreat
/- What stands while gprog.Extend fills its copy. -/
namespace Go.Proofs.YtdmcclfagjgcgaaGreat
open Go.RowKit

theorem zeroCells_one (v : Value) (m : Nat) : (Builtin.zeroCells #[v] m).toList = List.replicate m v := by
  apply List.ext_getElem
  · rw [zeros_len]; simp
  · intro i h1 h2
    rw [zeros_len] at h1
    simp [Builtin.zeroCells, Nat.mod_one]
section
variable {α : Type} {R : Rep α} {e : TypeId} {W : World} {S : List Nat} {B : Nat} {v : Value} {xs : List α}
theorem RowO.apart {β : Type} {R' : Rep β} {e' : TypeId} {S' : List Nat} {B' : Nat} {v' : Value} {ys : List β} (h : RowO R e S B W v xs) (h' : RowO R' e' S' B' W v' ys) (he : e ≠ e') : ∀ q, v.ownBlock = some q → v'.ownBlock ≠ some q := fun q h1 h2 => by
  obtain ⟨_, cs, a, _⟩ := h
  obtain ⟨_, cs', a', _⟩ := h'
  rcases a.2 with ⟨rfl, _⟩ | ⟨g, cap, cur, rfl, _, hh, _⟩
  · simp [Value.ownBlock] at h1
  · rcases a'.2 with ⟨rfl, _⟩ | ⟨g', cap', cur', rfl, _, hh', _⟩
    · simp [Value.ownBlock] at h2
    · have e1 : g = q := by simpa [Value.ownBlock] using h1
      have e2 : g' = q := by simpa [Value.ownBlock] using h2
      subst e1 e2
      rw [hh] at hh'
      injection hh' with hh'
      injection hh' with _ hh'
      exact he hh'
end
theorem RowO.zeros {W : World} {S : List Nat} {B : Nat} {v : Value} {xs : List ByteArray} (h : RowO strR 9 S B W v xs) (m : Nat) (hm : m ≤ 1000000) (hx : xs.length ≤ 1000000) (ty : TypeId) :
    ∃ v' w', (Builtin.append_ #[22, 3] ty #[v, .int .i64 (m : Int)]).run Tryz.prog W = .ok v' w' ∧ RowO strR 9 S B w' v' (xs ++ List.replicate m ByteArray.empty) ∧ W.grownBy w' v.ownBlock ∧ (v'.ownBlock = v.ownBlock ∨ v'.ownBlock = some W.heap.size) := by
  obtain ⟨⟨hk, hB, ho⟩, cs, h2, h3⟩ := h
  obtain ⟨i0, hi0, hz0, hz1, hz2⟩ := info_parts ety_str.info
  have hz1' : i0.size = 1 := hz1
  obtain ⟨v', w', hrun, k2, k3, k5⟩ := run_append_zeros_at (P := Tryz.prog) W B 22 3 ty 9 i0 _ Tryz.underlying22 Tryz.underlying3 hi0 hz0 (by rw [hz1']; rfl) (by rw [hz1']; omega) (by rw [hz2]; omega)
    (fun k u hu => by
      have : (Value.string ByteArray.empty).cells = #[.string ByteArray.empty] := rfl
      rw [this, zeroCells_one] at hu
      rw [List.eq_of_mem_replicate hu]; rfl) v xs.length cs (by rw [hz1']; exact h2) m hm hx hB
  rw [hz1', show (Value.string ByteArray.empty).cells = #[.string ByteArray.empty] from rfl, zeroCells_one] at k2
  refine ⟨v', w', hrun, RowO.of (T := S ++ ownL v) (w0 := W) ⟨⟨(Kept.refl _ _).thn (grown_kept k3) (fun q hq => ho q (by simpa using hq)), Nat.le_trans hB k3.size, fun q hq => ?_⟩, cs ++ List.replicate m (.string ByteArray.empty), by rw [List.length_append, List.length_replicate]; exact k2, fun i x hx => ?_⟩ (fun k hk => .inl (List.mem_append.2 (.inl hk))), k3, k5⟩
  · rcases k5 with h | h <;> rw [h] at hq
    · exact ho q hq
    · simp at hq; exact .inr (by omega)
  · have hcl : cs.length = xs.length * 1 := h2.1
    rcases Nat.lt_or_ge i xs.length with hi | hi
    · rw [List.getElem?_append_left hi] at hx
      have := h3 i x hx
      have e1 : ((cs ++ List.replicate m (Value.string ByteArray.empty)).drop (i * strR.size)).take strR.size = (cs.drop (i * strR.size)).take strR.size := by
        show ((cs ++ List.replicate m (Value.string ByteArray.empty)).drop (i * 1)).take 1 = (cs.drop (i * 1)).take 1
        rw [List.drop_append_of_le_length (by omega), List.take_append_of_le_length (by rw [List.length_drop]; omega)]
      rw [e1]; exact this
    · rw [List.getElem?_append_right hi, List.getElem?_replicate] at hx
      split at hx
      · cases hx
        intro V _
        show _ = [Value.string ByteArray.empty] ∧ _
        refine ⟨?_, by decide⟩
        show ((cs ++ List.replicate m (Value.string ByteArray.empty)).drop (i * 1)).take 1 = _
        rw [List.drop_append, List.drop_of_length_le (by omega), List.nil_append, List.drop_replicate, List.take_replicate, hcl, show min 1 (m - (i * 1 - xs.length * 1)) = 1 by omega]; rfl
      · cases hx
theorem wpList_append_run2 {P : Program} {ops : Array Oper} {rest : List Oper} {o : Oper} {a : Act} {w : World} {Q : Exit → Act → World → Prop} (hg : o.guard = none) (s x : Operand) (t t' : TypeId)
    (ho : o.op = .call { callee := .builtin .append, args := #[s, x], argTypes := #[t, t'] }) (v u : Value) (hs : a.eval s = v) (hx : a.eval x = u)
    (v' : Value) (w' : World) (hrun : (Builtin.append_ #[t, t'] o.type #[v, u]).run P w = .ok v' w') (h : wpList P ops Q rest (a.put o.dst v') w') : wpList P ops Q (o :: rest) a w :=
  wpList_plain hg fun _ hK => by
    unfold Oper.wp execOp
    simp only [ho, resolve, invoke, builtin, Sem.run_bind, Sem.run_pure, Result.andThen_ok, List.map_toArray, List.map_cons, List.map_nil, hs, hx, hrun]
    exact hK _ _ h
section
variable {α : Type} {R : Rep α} {e : TypeId} {W W' : World} {S S' T : List Nat} {B : Nat} {v : Value} {xs : List α}
theorem RowO.more (h : RowO R e S B W v xs) (hk : Kept T W W') (hT : ∀ k ∈ T, (k ∈ S ∨ W.heap.size ≤ k) ∧ v.ownBlock ≠ some k) (hS : ∀ k ∈ S', k ∈ S ∨ W.heap.size ≤ k ∨ v.ownBlock = some k) : RowO R e S' B W' v xs :=
  RowO.of (T := S ++ ownL v) (w0 := W) (RowK.kept h hk (fun k hk => ⟨(hT k hk).1.imp (fun h => List.mem_append.2 (.inl h)) id, (hT k hk).2⟩)) (fun k hk => by
    rcases hS k hk with h1 | h1 | h1
    · exact .inl (List.mem_append.2 (.inl h1))
    · exact .inr h1
    · exact .inl (List.mem_append.2 (.inr (ownL_mem.2 h1))))
theorem RowO.lower (h : RowO R e S B W v xs) {B' : Nat} (hB : B' ≤ B) : RowO R e S B' W v xs := by
  obtain ⟨⟨a, b, c⟩, cs, ⟨k1, k2⟩, d⟩ := h
  refine ⟨⟨a, Nat.le_trans hB b, c⟩, cs, ⟨k1, ?_⟩, d⟩
  rcases k2 with k2 | ⟨g, cap, cur, e1, e2, e3, e4⟩
  · exact .inl k2
  · exact .inr ⟨g, cap, cur, e1, Nat.le_trans hB e2, e3, e4⟩
theorem RowO.offBlk (h : RowO R e S B W v xs) {g : Nat} {t : TypeId} {c : Array Value} (hb : Blk W g t c) (ht : e ≠ t) : v.ownBlock ≠ some g := by
  obtain ⟨_, cs, a, _⟩ := h
  exact own_blk a hb ht
end
structure ExtS (v0 : World) (sh : List Int) (mn : List GMin) (N : Int) (g : Nat) (S : List Nat) (nv sv rv mv : Value) (ns : List ByteArray) (rs : List GRule) (W : World) : Prop where
  bel : Below v0.heap.size v0 W
  bx : Blk W g 27 #[.int .i64 N, nv, sv, rv, mv]
  e1 : Blk W (v0.heap.size + 1) 27 #[.int .i64 0, .slice none 0 0, .slice none 0 0, .slice none 0 0, .slice none 0 0]
  rn : RowO strR 9 S v0.heap.size W nv ns
  rh : RowO intR 3 S v0.heap.size W sv sh
  rr : RowO ruleR 37 S v0.heap.size W rv rs
  rm : RowO minR 50 S v0.heap.size W mv mn
  gS : g ∈ S
  eS : v0.heap.size + 1 ∈ S
  nS : ∀ k, nv.ownBlock = some k → k ∈ S
  rS : ∀ k, rv.ownBlock = some k → k ∈ S
  ne : g ≠ v0.heap.size + 1
  gB : v0.heap.size ≤ g
  lt : ∀ k ∈ S, k < W.heap.size
section
variable {v0 : World} {sh : List Int} {mn : List GMin} {N : Int} {g : Nat} {S : List Nat} {nv sv rv mv : Value} {ns ns' : List ByteArray} {rs rs' : List GRule} {W W' : World}
theorem ExtS.ext (h : ExtS v0 sh mn N g S nv sv rv mv ns rs W) (hb : Below W.heap.size W W') : ExtS v0 sh mn N g S nv sv rv mv ns rs W' :=
  { h with bel := h.bel.trans (hb.mono h.bel.size), bx := h.bx.bel hb, e1 := h.e1.bel hb, rn := h.rn.bel hb, rh := h.rh.bel hb, rr := h.rr.bel hb, rm := h.rm.bel hb, lt := fun k hk => Nat.lt_of_lt_of_le (h.lt k hk) hb.size }
theorem ExtS.names (h : ExtS v0 sh mn N g S nv sv rv mv ns rs W) {v' : Value} (hr : RowO strR 9 S v0.heap.size W' v' ns') (hg : W.grownBy W' nv.ownBlock) (hat : ∀ k, v'.ownBlock = some k → nv.ownBlock = some k ∨ W.heap.size ≤ k) :
    ExtS v0 sh mn N g (S ++ ownL v') v' sv rv mv ns' rs (W'.setCell ⟨g, 1, none⟩ v') := by
  have kW : Kept (ownL nv) W W' := grown_kept hg
  have kS : Kept [g] W' (W'.setCell ⟨g, 1, none⟩ v') := (Kept.refl _ _).set (.inl (by simp)) _
  have n1 : g ∉ ownL nv := fun e => h.rn.offBlk h.bx (by decide) (ownL_mem.1 e)
  have n2 : v0.heap.size + 1 ∉ ownL nv := fun e => h.rn.offBlk h.e1 (by decide) (ownL_mem.1 e)
  have bx1 := kW.blk h.bx n1
  have bx2 := bx1.set_ 1 v'
  have t1 : ∀ {α : Type} {R : Rep α} {e : TypeId} {v : Value} {xs : List α}, 9 ≠ e → RowO R e S v0.heap.size W v xs → ∀ k ∈ ownL nv, (k ∈ S ∨ W.heap.size ≤ k) ∧ v.ownBlock ≠ some k := fun he hv k hk => ⟨.inl (h.nS k (ownL_mem.1 hk)), h.rn.apart hv he k (ownL_mem.1 hk)⟩
  have t2 : ∀ k ∈ S ++ ownL v', k ∈ S ∨ W.heap.size ≤ k := fun k hk => by
    rcases List.mem_append.1 hk with h1 | h1
    · exact .inl h1
    · exact (hat k (ownL_mem.1 h1)).imp (h.nS k) id
  have t3 : ∀ {α : Type} {R : Rep α} {e : TypeId} {v : Value} {xs : List α}, e ≠ 27 → RowO R e S v0.heap.size W' v xs → ∀ k ∈ [g], (k ∈ S ∨ W'.heap.size ≤ k) ∧ v.ownBlock ≠ some k := fun he hv k hk => by
    simp at hk; subst hk
    exact ⟨.inl h.gS, hv.offBlk bx1 he⟩
  have go : ∀ {α : Type} {R : Rep α} {e : TypeId} {v : Value} {xs : List α}, 9 ≠ e → e ≠ 27 → RowO R e S v0.heap.size W v xs → RowO R e (S ++ ownL v') v0.heap.size (W'.setCell ⟨g, 1, none⟩ v') v xs := fun he1 he2 hv =>
    ((hv.more kW (t1 he1 hv) (S' := S ++ ownL v') (fun k hk => (t2 k hk).imp id .inl))).more kS (fun k hk => ⟨.inl (List.mem_append.2 (.inl ((by simp at hk; subst hk; exact h.gS)))), (t3 he2 (hv.step kW (t1 he1 hv)) k hk).2⟩) (fun _ hk => .inl hk)
  have hsz : (W'.setCell ⟨g, 1, none⟩ v').heap.size = W'.heap.size := by simp [World.setCell]
  exact ⟨Kept.below (Kept.below h.bel kW h.bel.size (fun k hk => (h.rn.lt (ownL_mem.1 hk)).1)) kS (Nat.le_trans h.bel.size hg.size) (fun k hk => by simp at hk; subst hk; exact h.gB), bx2, kS.blk (kW.blk h.e1 n2) (by simp; exact fun e => h.ne e.symm),
    hr.more kS (t3 (by decide) hr) (fun k hk => by
      rcases List.mem_append.1 hk with h1 | h1
      · exact .inl h1
      · exact .inr (.inr (ownL_mem.1 h1))), go (by decide) (by decide) h.rh, go (by decide) (by decide) h.rr, go (by decide) (by decide) h.rm,
    List.mem_append.2 (.inl h.gS), List.mem_append.2 (.inl h.eS), fun k hk => List.mem_append.2 (.inr (ownL_mem.2 hk)), fun k hk => List.mem_append.2 (.inl (h.rS k hk)), h.ne, h.gB, fun k hk => by
      rw [hsz]
      rcases List.mem_append.1 hk with h1 | h1
      · exact Nat.lt_of_lt_of_le (h.lt k h1) hg.size
      · exact (hr.lt (ownL_mem.1 h1)).2⟩
theorem ExtS.rules (h : ExtS v0 sh mn N g S nv sv rv mv ns rs W) {v' : Value} (hr : RowO ruleR 37 S v0.heap.size W' v' rs') (hg : W.grownBy W' rv.ownBlock) (hat : ∀ k, v'.ownBlock = some k → rv.ownBlock = some k ∨ W.heap.size ≤ k) :
    ExtS v0 sh mn N g (S ++ ownL v') nv sv v' mv ns rs' (W'.setCell ⟨g, 3, none⟩ v') := by
  have kW : Kept (ownL rv) W W' := grown_kept hg
  have kS : Kept [g] W' (W'.setCell ⟨g, 3, none⟩ v') := (Kept.refl _ _).set (.inl (by simp)) _
  have n1 : g ∉ ownL rv := fun e => h.rr.offBlk h.bx (by decide) (ownL_mem.1 e)
  have n2 : v0.heap.size + 1 ∉ ownL rv := fun e => h.rr.offBlk h.e1 (by decide) (ownL_mem.1 e)
  have bx1 := kW.blk h.bx n1
  have bx2 := bx1.set_ 3 v'
  have t1 : ∀ {α : Type} {R : Rep α} {e : TypeId} {v : Value} {xs : List α}, 37 ≠ e → RowO R e S v0.heap.size W v xs → ∀ k ∈ ownL rv, (k ∈ S ∨ W.heap.size ≤ k) ∧ v.ownBlock ≠ some k := fun he hv k hk => ⟨.inl (h.rS k (ownL_mem.1 hk)), h.rr.apart hv he k (ownL_mem.1 hk)⟩
  have t2 : ∀ k ∈ S ++ ownL v', k ∈ S ∨ W.heap.size ≤ k := fun k hk => by
    rcases List.mem_append.1 hk with h1 | h1
    · exact .inl h1
    · exact (hat k (ownL_mem.1 h1)).imp (h.rS k) id
  have t3 : ∀ {α : Type} {R : Rep α} {e : TypeId} {v : Value} {xs : List α}, e ≠ 27 → RowO R e S v0.heap.size W' v xs → ∀ k ∈ [g], (k ∈ S ∨ W'.heap.size ≤ k) ∧ v.ownBlock ≠ some k := fun he hv k hk => by
    simp at hk; subst hk
    exact ⟨.inl h.gS, hv.offBlk bx1 he⟩
  have go : ∀ {α : Type} {R : Rep α} {e : TypeId} {v : Value} {xs : List α}, 37 ≠ e → e ≠ 27 → RowO R e S v0.heap.size W v xs → RowO R e (S ++ ownL v') v0.heap.size (W'.setCell ⟨g, 3, none⟩ v') v xs := fun he1 he2 hv =>
    ((hv.more kW (t1 he1 hv) (S' := S ++ ownL v') (fun k hk => (t2 k hk).imp id .inl))).more kS (fun k hk => ⟨.inl (List.mem_append.2 (.inl ((by simp at hk; subst hk; exact h.gS)))), (t3 he2 (hv.step kW (t1 he1 hv)) k hk).2⟩) (fun _ hk => .inl hk)
  have hsz : (W'.setCell ⟨g, 3, none⟩ v').heap.size = W'.heap.size := by simp [World.setCell]
  exact ⟨Kept.below (Kept.below h.bel kW h.bel.size (fun k hk => (h.rr.lt (ownL_mem.1 hk)).1)) kS (Nat.le_trans h.bel.size hg.size) (fun k hk => by simp at hk; subst hk; exact h.gB), bx2, kS.blk (kW.blk h.e1 n2) (by simp; exact fun e => h.ne e.symm),
    go (by decide) (by decide) h.rn, go (by decide) (by decide) h.rh, hr.more kS (t3 (by decide) hr) (fun k hk => by
      rcases List.mem_append.1 hk with h1 | h1
      · exact .inl h1
      · exact .inr (.inr (ownL_mem.1 h1))), go (by decide) (by decide) h.rm,
    List.mem_append.2 (.inl h.gS), List.mem_append.2 (.inl h.eS), fun k hk => List.mem_append.2 (.inl (h.nS k hk)), fun k hk => List.mem_append.2 (.inr (ownL_mem.2 hk)), h.ne, h.gB, fun k hk => by
      rw [hsz]
      rcases List.mem_append.1 hk with h1 | h1
      · exact Nat.lt_of_lt_of_le (h.lt k h1) hg.size
      · exact (hr.lt (ownL_mem.1 h1)).2⟩
theorem ExtS.last (h : ExtS v0 sh mn N g S nv sv rv mv ns rs W) (cs : Array Value) (l1 : ns.length ≤ 1000000) (l2 : sh.length ≤ 1000000) (l3 : rs.length ≤ 1000000) (l4 : mn.length ≤ 1000000) :
    ∃ (nA' : Option Addr) (nc' : Nat) (sA' : Option Addr) (sc' : Nat) (rA' : Option Addr) (rc' : Nat) (mA' : Option Addr) (mc' : Nat), nv = .slice nA' ns.length nc' ∧ sv = .slice sA' sh.length sc' ∧ rv = .slice rA' rs.length rc' ∧ mv = .slice mA' mn.length mc' ∧
      SlIs strR (W.setRow (v0.heap.size + 1) cs) nA' ns.length nc' ns ∧ SlIs intR (W.setRow (v0.heap.size + 1) cs) sA' sh.length sc' sh ∧ SlIs ruleR (W.setRow (v0.heap.size + 1) cs) rA' rs.length rc' rs ∧ SlIs minR (W.setRow (v0.heap.size + 1) cs) mA' mn.length mc' mn ∧
      Below v0.heap.size v0 (W.setRow (v0.heap.size + 1) cs) := by
  have kR : Kept [v0.heap.size + 1] W (W.setRow (v0.heap.size + 1) cs) := (Kept.refl _ _).row (.inl (by simp)) _
  have go : ∀ {α : Type} {R : Rep α} {e : TypeId} {v : Value} {xs : List α}, e ≠ 27 → RowO R e S v0.heap.size W v xs → RowO R e S v0.heap.size (W.setRow (v0.heap.size + 1) cs) v xs := fun he hv =>
    hv.step kR (fun k hk => by simp at hk; subst hk; exact ⟨.inl h.eS, hv.offBlk h.e1 he⟩)
  obtain ⟨nA', nc', e1, k1⟩ := (go (by decide) h.rn).sl (by omega)
  obtain ⟨sA', sc', e2, k2⟩ := (go (by decide) h.rh).sl (by omega)
  obtain ⟨rA', rc', e3, k3⟩ := (go (by decide) h.rr).sl (by omega)
  obtain ⟨mA', mc', e4, k4⟩ := (go (by decide) h.rm).sl (by omega)
  exact ⟨nA', nc', sA', sc', rA', rc', mA', mc', e1, e2, e3, e4, k1, k2, k3, k4, Kept.below h.bel kR h.bel.size (by simp)⟩
end
end Go.Proofs.YtdmcclfagjgcgaaGreat
/- Contract: gprog.Extend by atoms and rules that Norm takes. -/
namespace Go.Proofs.YtdmcclfagjgcgaaGreat
open Go.RowKit Go.Shelf

def extP (p : GProg) (k : Nat) (rs : List GRule) : GProg := { p with n := p.n + k, names := p.names ++ List.replicate k ByteArray.empty, rules := p.rules ++ rs.map normR }
theorem info_prog' : (Tryz.prog.info? 27).map (·.size) = some 5 := by kernel_rfl
set_option maxRecDepth 100000 in
set_option maxHeartbeats 8000000 in
theorem extend_any (p : GProg) (nA : Option Addr) (nl nc : Nat) (sA : Option Addr) (sl sc : Nat) (rA : Option Addr) (rl rc : Nat) (mA : Option Addr) (ml mc : Nat) (k : Nat) (qA : Option Addr) (ql qc : Nat) (rs : List GRule) (w : World) (hp : ProgIn w p nA nl nc sA sl sc rA rl rc mA ml mc) (hv : validE p = 0) (hk : p.n + (k : Int) ≤ 4000) (hsz : nl ≤ 100000 ∧ sl ≤ 100000 ∧ ml ≤ 100000)
    (hrl : ∀ r ∈ p.rules, r.head.length ≤ 100000 ∧ r.body.length ≤ 100000 ∧ r.w.length ≤ 100000) (hml : ∀ r ∈ p.min, r.lits.length ≤ 100000 ∧ r.w.length ≤ 100000)
    (hq : SlIs ruleR w qA ql qc rs) (hqr : rl + ql ≤ 40000) (hpre : ∀ r ∈ rs, PreRule r (p.n + k)) :
    Calls Tryz.prog 18 #[.agg #[.int .i64 p.n, .slice nA nl nc, .slice sA sl sc, .slice rA rl rc, .slice mA ml mc], .int .i64 (k : Int), .slice qA ql qc] w fun e w' => ∃ (nA' : Option Addr) (nl' nc' : Nat) (sA' : Option Addr) (sl' sc' : Nat) (rA' : Option Addr) (rl' rc' : Nat) (mA' : Option Addr) (ml' mc' : Nat),
      e = .returned (.tuple #[.agg #[.int .i64 (p.n + k), .slice nA' nl' nc', .slice sA' sl' sc', .slice rA' rl' rc', .slice mA' ml' mc'], .int .i64 0]) ∧ ProgIn w' (extP p k rs) nA' nl' nc' sA' sl' sc' rA' rl' rc' mA' ml' mc' ∧ Below w.heap.size w w' := by
  have hn0 := valid_n hv
  have hn1 := (valid_ok hv).2.2
  have cV := fun W (hb : Below w.heap.size w W) => valid_any p nA nl nc sA sl sc rA rl rc mA ml mc W (hp.ext hb)
  rw [hv] at cV
  have hpn := hp.n
  have hqc := hq.cap
  have hqm := hq.max
  have hrc := hp.rules.cap
  have hrm := hp.rules.max
  have cC := fun W (hb : Below w.heap.size w W) E hE => gclone_any p nA nl nc sA sl sc rA rl rc mA ml mc w W hb E hE hp hsz.1 hsz.2.1 (by omega) hsz.2.2 hrl hml
  have hrlen := hp.rules.len
  have hqlen := hq.len
  obtain ⟨N, hN⟩ : ∃ N : Int, N = p.n + k := ⟨_, rfl⟩
  rw [← hN] at hk hpre ⊢
  have hN2 : p.n + (k : Int) = N := hN.symm
  have hN1 : p.n ≤ N := by omega
  have z1 : IntKind.i64.wrap (4000 - p.n) = 4000 - p.n := IntWalk.i64_in _ (by omega)
  have z2 : ¬ 4000 - p.n < (k : Int) := by omega
  have z3 : IntKind.i64.wrap (40000 - (rl : Int)) = 40000 - (rl : Int) := IntWalk.i64_in _ (by omega)
  have z4 : ¬ 40000 - (rl : Int) < (ql : Int) := by omega
  obtain ⟨W0, hW0⟩ : ∃ W0, W0 = ((w.alloc (.cells #[.int .i64 p.n, .slice nA nl nc, .slice sA sl sc, .slice rA rl rc, .slice mA ml mc] 27)).alloc (.cells #[.int .i64 0, .slice none 0 0, .slice none 0 0, .slice none 0 0, .slice none 0 0] 27)) := ⟨_, rfl⟩
  have hW : Blk W0 w.heap.size 27 #[.int .i64 p.n, .slice nA nl nc, .slice sA sl sc, .slice rA rl rc, .slice mA ml mc] ∧ Blk W0 (w.heap.size + 1) 27 #[.int .i64 0, .slice none 0 0, .slice none 0 0, .slice none 0 0, .slice none 0 0] ∧ Below w.heap.size w W0 ∧ W0.heap.size = w.heap.size + 2 := by
    rw [hW0]
    exact ⟨(blk_new rfl _ _).alloc _, blk_new (by simp) _ _, bel_trans (bel_alloc _ _) (bel_alloc _ _), by simp⟩
  obtain ⟨bP, bZ, bW, hs0⟩ := hW
  have hv' := hv
  have HP := Lib.hid hp; clear hp
  have HV := Lib.hid hv; clear hv
  have HRL := Lib.hid hrl; clear hrl
  have HML := Lib.hid hml; clear hml
  have HQ := Lib.hid hq; clear hq
  have HPRE := Lib.hid hpre; clear hpre
  have CV := Lib.hid cV; clear cV
  have CC := Lib.hid cC; clear cC
  have HRLEN := Lib.hid hrlen; clear hrlen
  have HQLEN := Lib.hid hqlen; clear hqlen
  have BP := Lib.hid bP; clear bP
  have BZ := Lib.hid bZ; clear bZ
  have BW := Lib.hid bW; clear bW
  have HS0 := Lib.hid hs0; clear hs0
  have HV' := Lib.hid hv'; clear hv'
  have HN := Lib.hid hN; clear hN
  go_enter Tryz.func18, Tryz.ntmps18
  go_wp2_with fail
  rw [← hW0]
  clear hW0
  go_fit (CV.out _ BW.out); rintro e w1 ⟨rfl, hb1⟩
  have hbw1 := bel_trans BW.out hb1
  have hx1 := BP.out.bel hb1
  obtain ⟨p0, p1, p2, p3, p4, p5⟩ := pcells hx1
  have HB1 := Lib.hid hb1; clear hb1
  have HBW1 := Lib.hid hbw1; clear hbw1
  have HX1 := Lib.hid hx1; clear hx1
  go_wp2_with fail
  have hsz1 := HB1.out.size
  go_fit (CC.out _ HBW1.out [w.heap.size, w.heap.size + 1] (fun q hq => by have := HS0.out; simp at hq; omega)); rintro e w2 ⟨nA1, nc1, sA1, sc1, rA1, rc1, mA1, mc1, T, rfl, hb2, hT, hET, rn, rsh, rr, rmn⟩
  have hbw2 := bel_trans HBW1.out hb2
  have bZ2 := (BZ.out.bel HB1.out).bel hb2
  clear p0 p1 p2 p3 p4 p5
  have hbl := HBW1.out.size
  have hX : ExtS w p.shown p.min N w2.heap.size (w2.heap.size :: T) (.slice nA1 nl nc1) (.slice sA1 sl sc1) (.slice rA1 rl rc1) (.slice mA1 ml mc1) p.names p.rules (w2.alloc (.cells #[.int .i64 N, .slice nA1 nl nc1, .slice sA1 sl sc1, .slice rA1 rl rc1, .slice mA1 ml mc1] 27)) := by
    have hbx := bel_alloc w2 (.cells #[.int .i64 N, .slice nA1 nl nc1, .slice sA1 sl sc1, .slice rA1 rl rc1, .slice mA1 ml mc1] 27)
    have go : ∀ {α : Type} {R : Rep α} {e : TypeId} {v : Value} {xs : List α}, RowN R e T w1.heap.size w2 v xs → RowO R e (w2.heap.size :: T) w.heap.size (w2.alloc (.cells #[.int .i64 N, .slice nA1 nl nc1, .slice sA1 sl sc1, .slice rA1 rl rc1, .slice mA1 ml mc1] 27)) v xs := fun {α R e v xs} h => by
      have h1 : RowO R e (w2.heap.size :: T) w1.heap.size (w2.alloc (.cells #[.int .i64 N, .slice nA1 nl nc1, .slice sA1 sl sc1, .slice rA1 rl rc1, .slice mA1 ml mc1] 27)) v xs := RowO.of (T := T) (w0 := w2) (RowK.bel h hbx) (fun k hk => by
        rcases List.mem_cons.1 hk with e | e
        · exact .inr (by omega)
        · exact .inl e)
      exact h1.lower hbl
    have hsz2 : (w2.alloc (.cells #[.int .i64 N, .slice nA1 nl nc1, .slice sA1 sl sc1, .slice rA1 rl rc1, .slice mA1 ml mc1] 27)).heap.size = w2.heap.size + 1 := by simp
    exact ⟨bel_trans hbw2 hbx, blk_new rfl _ _, bZ2.bel hbx, go rn, go rsh, go rr, go rmn, by simp, List.mem_cons_of_mem _ (hET _ (by simp)), fun k hk => List.mem_cons_of_mem _ (rn.own hk).1, fun k hk => List.mem_cons_of_mem _ (rr.own hk).1, by have := HS0.out; have := hb2.size; omega, hbw2.size, fun k hk => by
      rcases List.mem_cons.1 hk with e | e
      · omega
      · have := (hT k e).2; omega⟩
  obtain ⟨nv, w3, hrun, ro3, hg3, hat3⟩ := hX.rn.zeros k (by omega) (by have := HP.out.names.len; omega) 22
  obtain ⟨nA3, nc3, rfl, -⟩ := ro3.sl (by rw [List.length_append, List.length_replicate]; have := HP.out.names.len; omega)
  obtain ⟨NL, hNL⟩ : ∃ NL, NL = (p.names ++ List.replicate k ByteArray.empty).length := ⟨_, rfl⟩
  have hX3 := hX.names ro3 hg3 (fun q hq => by
    rcases hat3 with e | e
    · exact .inl (e ▸ hq)
    · rw [e] at hq; injection hq with hq; exact .inr (by omega))
  have hc3 : w3.cell? ⟨w2.heap.size, 1, none⟩ = some (.slice nA1 nl nc1) := ((grown_kept hg3).blk hX.bx (fun e => hX.rn.offBlk hX.bx (by decide) (by simpa using e))).cell 1
  have hf3 : w3.frozen? ⟨w2.heap.size, 1, none⟩ = false := ((grown_kept hg3).blk hX.bx (fun e => hX.rn.offBlk hX.bx (by decide) (by simpa using e))).frozen 1
  rw [← hNL] at hX3 hrun ro3
  have hb30 := hX.bel
  have hnl2 : NL ≤ 1000000 := by rw [hNL, List.length_append, List.length_replicate]; have := HP.out.names.len; omega
  clear hb2 hT rn rsh rr rmn hbw2 hX ro3 hg3 hat3 hET bZ2 hbl hb30
  have HRUN := Lib.hid hrun; clear hrun
  have HX3 := Lib.hid hX3; clear hX3
  have HNL := Lib.hid hNL; clear hNL
  go_wp2_with (at_builtin; refine wpList_append_run2 rfl _ _ _ _ rfl _ _ rfl rfl _ _ HRUN.out ?_)
  clear hc3 hf3
  generalize w3.setCell ⟨w2.heap.size, 1, none⟩ (.slice nA3 NL nc3) = W3 at *
  go_loopw [55] (fun t wr => ∃ (i : Nat) (rv : Value) (S : List Nat), i ≤ ql ∧ t = .int .i64 (i : Int) ∧ ExtS w p.shown p.min N w2.heap.size S (.slice nA3 NL nc3) (.slice sA1 sl sc1) rv (.slice mA1 ml mc1) (p.names ++ List.replicate k ByteArray.empty) (p.rules ++ (rs.take i).map normR) wr) (fun t _ => ql - (intOf t).toNat)
  case atStart => exact ⟨0, _, _, Nat.zero_le _, rfl, by simpa using HX3.out⟩
  case round =>
    obtain ⟨i, rv, S, hi, rfl, hs⟩ := hrel
    obtain ⟨wo, rfl⟩ : ∃ wo : World, wo = wr := ⟨_, rfl⟩
    have hL0 : (p.rules ++ (rs.take i).map normR).length = rl + i := by rw [List.length_append, List.length_map, List.length_take]; have := HRLEN.out; have := HQLEN.out; omega
    obtain ⟨rvA, rvc, hrv, -⟩ := hs.rr.sl (by rw [hL0]; omega)
    rw [hL0] at hrv
    subst hrv
    have HL0 := Lib.hid hL0; clear hL0
    by_cases hlt : i < ql
    · obtain ⟨r, hri, -⟩ := HQ.out.drop hlt
      obtain ⟨bb, off, hA, hl, hc, bA, bl, bc, wA, wl, wc, rfl, hbl2, x0, x1, x2, x3, x4, x5, g1, g2, g3, g4⟩ := HQ.out.rule hri
      have d0 := (hs.bel.cell (World.block_lt_of_cell? _ _ x0)).trans x0
      have d1 := (hs.bel.cell (World.block_lt_of_cell? _ _ x1)).trans x1
      have d2 := (hs.bel.cell (World.block_lt_of_cell? _ _ x2)).trans x2
      have d3 := (hs.bel.cell (World.block_lt_of_cell? _ _ x3)).trans x3
      have d4 := (hs.bel.cell (World.block_lt_of_cell? _ _ x4)).trans x4
      have d5 := (hs.bel.cell (World.block_lt_of_cell? _ _ x5)).trans x5
      clear x0 x1 x2 x3 x4 x5
      have k0 : (0 : Int) ≤ (i : Int) := by omega
      have k1 : (i : Int) < (ql : Int) := by omega
      have hrin : RuleIn w r hA hl hc bA bl bc wA wl wc := ⟨g1, g2, g3, g4⟩
      have hpr := HPRE.out r (List.mem_of_getElem? hri)
      have hb1 := bel_alloc wo (.cells #[.bool r.choice, .slice hA hl hc, .bool r.sum, .int .i64 r.bound, .slice bA bl bc, .slice wA wl wc] 37)
      have b1 : Blk (wo.alloc (.cells #[.bool r.choice, .slice hA hl hc, .bool r.sum, .int .i64 r.bound, .slice bA bl bc, .slice wA wl wc] 37)) wo.heap.size 37 #[.bool r.choice, .slice hA hl hc, .bool r.sum, .int .i64 r.bound, .slice bA bl bc, .slice wA wl wc] := blk_new rfl _ _
      have hs1 := hs.ext hb1
      have cN := norm_any r _ _ _ _ _ _ _ _ _ N (wo.alloc (.cells #[.bool r.choice, .slice hA hl hc, .bool r.sum, .int .i64 r.bound, .slice bA bl bc, .slice wA wl wc] 37)) (hrin.ext (bel_trans hs.bel hb1)) hpr
      have q0 := hs1.bx.cell 0
      clear g1 g2 g3 g4 hrin hpr hb1 hs
      have HRI := Lib.hid hri; clear hri
      have B1 := Lib.hid b1; clear b1
      have HS1 := Lib.hid hs1; clear hs1
      have CN := Lib.hid cN; clear cN
      go_wp2_with (refine wpList_load_row (by rfl) 37 _ (by rfl) wo.heap.size (by rfl) 37 #[.bool r.choice, .slice hA hl hc, .bool r.sum, .int .i64 r.bound, .slice bA bl bc, .slice wA wl wc] (0, 0) _ B1.out Tryz.underlying37 rfl info_rule ?_)
      go_fit CN.out; rintro e w4 ⟨hA', hl', hc', bA', bl', bc', wA', wl', wc', he, rin, f1, f2, f3, hb4⟩
      have he' : e = .returned (.tuple #[.agg #[.bool r.choice, .slice hA' hl' hc', .bool r.sum, .int .i64 r.bound, .slice bA' bl' bc', .slice wA' wl' wc'], .int .i64 0]) := he
      clear he
      subst he'
      have hs4 := HS1.out.ext hb4
      have hb5 := bel_alloc w4 (.cells #[.bool r.choice, .slice hA' hl' hc', .bool r.sum, .int .i64 r.bound, .slice bA' bl' bc', .slice wA' wl' wc'] 37)
      have b5 : Blk (w4.alloc (.cells #[.bool r.choice, .slice hA' hl' hc', .bool r.sum, .int .i64 r.bound, .slice bA' bl' bc', .slice wA' wl' wc'] 37)) w4.heap.size 37 #[.bool r.choice, .slice hA' hl' hc', .bool r.sum, .int .i64 r.bound, .slice bA' bl' bc', .slice wA' wl' wc'] := blk_new rfl _ _
      have hs5 := hs4.ext hb5
      have hof : ∀ q ∈ S ++ ownL (.slice rvA (rl + i) rvc), q < (wo.alloc (.cells #[.bool r.choice, .slice hA hl hc, .bool r.sum, .int .i64 r.bound, .slice bA bl bc, .slice wA wl wc] 37)).heap.size := fun q hq => by
        rcases List.mem_append.1 hq with h1 | h1
        · exact HS1.out.lt q h1
        · exact HS1.out.lt q (HS1.out.rS q (ownL_mem.1 h1))
      have hel : Stab ruleR (S ++ ownL (.slice rvA (rl + i) rvc)) (w4.alloc (.cells #[.bool r.choice, .slice hA' hl' hc', .bool r.sum, .int .i64 r.bound, .slice bA' bl' bc', .slice wA' wl' wc'] 37)) [.bool r.choice, .slice hA' hl' hc', .bool r.sum, .int .i64 r.bound, .slice bA' bl' bc', .slice wA' wl' wc'] (normR r) :=
        Stab.rule (r := normR r) (StabS.ints (rin.head.ext hb5) (f1.off hof)) rin.bound (StabS.ints (rin.body.ext hb5) (f2.off hof)) (StabS.ints (rin.wt.ext hb5) (f3.off hof))
      obtain ⟨v', w5, hrun, ro, hg, hat⟩ := hs5.rr.app1 ety_rule _ _ hel (by rw [HL0.out]; omega) 24
      obtain ⟨vA, vc, rfl, -⟩ := ro.sl (by rw [List.length_append, HL0.out]; simp; omega)
      have hX5 := hs5.rules ro hg hat
      have hL1 : ((p.rules ++ (rs.take i).map normR) ++ [normR r]).length = rl + i + 1 := by rw [List.length_append, HL0.out]; rfl
      rw [hL1] at hrun hX5 hat ro
      clear hL1
      have hst : (p.rules ++ (rs.take i).map normR) ++ [normR r] = p.rules ++ (rs.take (i + 1)).map normR := by
        rw [List.take_add_one, HRI.out, List.map_append, List.append_assoc]; rfl
      rw [hst] at hX5
      have hz4 : (w4.alloc (.cells #[.bool r.choice, .slice hA' hl' hc', .bool r.sum, .int .i64 r.bound, .slice bA' bl' bc', .slice wA' wl' wc'] 37)).heap.size = w4.heap.size + 1 := by simp
      rw [hz4] at hrun
      have q3 := hs5.bx.cell 3
      have hc5 : w5.cell? ⟨w2.heap.size, 3, none⟩ = some (.slice rvA (rl + i) rvc) := ((grown_kept hg).blk hs5.bx (fun e => hs5.rr.offBlk hs5.bx (by decide) (by simpa using e))).cell 3
      have hf5 : w5.frozen? ⟨w2.heap.size, 3, none⟩ = false := ((grown_kept hg).blk hs5.bx (fun e => hs5.rr.offBlk hs5.bx (by decide) (by simpa using e))).frozen 3
      clear hs4 hb5 hs5 hof hel ro hg hat rin f1 f2 f3 hb4 hst
      have B5 := Lib.hid b5; clear b5
      have HRUN := Lib.hid hrun; clear hrun
      have HX5 := Lib.hid hX5; clear hX5
      go_wp2_with (first
        | (refine wpList_load_row (by rfl) 37 _ (by rfl) w4.heap.size (by rfl) 37 #[.bool r.choice, .slice hA' hl' hc', .bool r.sum, .int .i64 r.bound, .slice bA' bl' bc', .slice wA' wl' wc'] (0, 0) _ B5.out Tryz.underlying37 rfl info_rule ?_)
        | (at_builtin; refine wpList_append_run rfl _ _ _ rfl _ _ rfl rfl _ _ HRUN.out ?_))
      go_roundw
      case rel => exact ⟨i + 1, _, _, by omega, by go_num, HX5.out⟩
      case measure => simp [intOf]; omega
    · have hil : i = ql := by omega
      have hL0 := HL0.out
      clear HL0
      have htk : rs.take i = rs := List.take_of_length_le (by have := HQLEN.out; omega)
      rw [htk] at hs hL0
      obtain ⟨M, hM⟩ : ∃ M, M = rl + i := ⟨_, rfl⟩
      rw [← hM] at hs hL0
      have hlast := hs.last #[.int .i64 N, .slice nA3 NL nc3, .slice sA1 sl sc1, .slice rvA M rvc, .slice mA1 ml mc1] (by rw [← HNL.out]; omega) (by have := HP.out.shown.len; omega) (by rw [hL0]; omega) (by have := HP.out.min.len; omega)
      obtain ⟨nA', nc', sA', sc', rA', rc', mA', mc', e1, e2, e3, e4, j1, j2, j3, j4, j5⟩ := hlast
      have hfz : Blk (wo.setRow (w.heap.size + 1) #[.int .i64 N, .slice nA3 NL nc3, .slice sA1 sl sc1, .slice rvA M rvc, .slice mA1 ml mc1]) (w.heap.size + 1) 27 #[.int .i64 N, .slice nA3 NL nc3, .slice sA1 sl sc1, .slice rvA M rvc, .slice mA1 ml mc1] := hs.e1.row _
      have hbx := hs.bx
      have he1 := hs.e1
      have hM2 : M ≤ 80000 := by omega
      have HM := Lib.hid hM; clear hM
      have HIL := Lib.hid hil; clear hil
      have HL0 := Lib.hid hL0; clear hL0
      have HTK := Lib.hid htk; clear htk
      have HS := Lib.hid hs; clear hs
      have HFZ := Lib.hid hfz; clear hfz
      have HBX := Lib.hid hbx; clear hbx
      have HE1 := Lib.hid he1; clear he1
      have E1 := Lib.hid e1; clear e1
      have E2 := Lib.hid e2; clear e2
      have E3 := Lib.hid e3; clear e3
      have E4 := Lib.hid e4; clear e4
      have J1 := Lib.hid j1; clear j1
      have J2 := Lib.hid j2; clear j2
      have J3 := Lib.hid j3; clear j3
      have J4 := Lib.hid j4; clear j4
      have J5 := Lib.hid j5; clear j5
      go_wp2_with (first
        | (refine wpList_load_row (by rfl) 27 _ (by rfl) w2.heap.size (by rfl) 27 #[.int .i64 N, .slice nA3 NL nc3, .slice sA1 sl sc1, .slice rvA M rvc, .slice mA1 ml mc1] (0, 0) _ HBX.out Tryz.underlying27 rfl info_prog' ?_)
        | (refine wpList_store_row (by rfl) 27 _ _ (by rfl) (w.heap.size + 1) #[.int .i64 N, .slice nA3 NL nc3, .slice sA1 sl sc1, .slice rvA M rvc, .slice mA1 ml mc1] (by rfl) (by rfl) 27 _ HE1.out info_prog' (by rfl) (by simp [Value.oneCell']) ?_))
      refine bodyPost_ret (results_row_tmp rfl _ _ (w.heap.size + 1) 27 #[.int .i64 N, .slice nA3 NL nc3, .slice sA1 sl sc1, .slice rvA M rvc, .slice mA1 ml mc1] _ (.int .i64 0) rfl rfl HFZ.out Tryz.underlying27 rfl info_prog') rfl ?_
      have hN64 : I64 N := by unfold I64; omega
      have a1 := E1.out; have a2 := E2.out; have a3 := E3.out; have a4 := E4.out
      injection a1 with a11 a12 a13
      injection a2 with a21 a22 a23
      injection a3 with a31 a32 a33
      injection a4 with a41 a42 a43
      have b1 := J1.out; have b2 := J2.out; have b3 := J3.out; have b4 := J4.out
      rw [← a11, ← a12, ← a13] at b1
      rw [← a21, ← a22, ← a23] at b2
      rw [← a31, ← a32, ← a33] at b3
      rw [← a41, ← a42, ← a43] at b4
      have hext : extP p k rs = { p with n := N, names := p.names ++ List.replicate k ByteArray.empty, rules := p.rules ++ rs.map normR } := by unfold extP; rw [HN.out]
      exact ⟨_, _, _, _, _, _, _, _, _, _, _, _, rfl, by rw [hext]; exact ⟨hN64, b1, b2, b3, b4⟩, J5.out⟩
end Go.Proofs.YtdmcclfagjgcgaaGreat
/- Extend (plain): the extended program is valid; what StableWrong needs to know (plain). -/
namespace Go.Proofs.YtdmcclfagjgcgaaGreat
open Go.RowKit

theorem ex_litB {x n n' : Int} (h : litB x n = true) (hn : n ≤ n') : litB x n' = true := by
  unfold litB at h ⊢
  simp only [Bool.and_eq_true, bne_iff_ne, decide_eq_true_eq] at h ⊢
  omega
theorem ex_ordGo {n n' : Int} (hn : n ≤ n') : ∀ (xs : List Int) (q : Option Int), ordGo n q xs = true → ordGo n' q xs = true
  | [], _, _ => rfl
  | x :: r, q, h => by
    rw [ordGo_cons, Bool.and_eq_true, Bool.and_eq_true] at h ⊢
    exact ⟨⟨ex_litB h.1.1 hn, h.1.2⟩, ex_ordGo hn r _ h.2⟩
theorem ex_incB {n n' : Int} {xs : List Int} (h : incB n xs = true) (hn : n ≤ n') : incB n' xs = true := by
  unfold incB ordB at h ⊢
  rw [Bool.and_eq_true] at h ⊢
  exact ⟨ex_ordGo hn _ _ h.1, h.2⟩
theorem ex_ruleE {r : GRule} {n : Int} (h : RuleIs r n) : ruleE r n = 0 := by
  have h0 := h.n0
  have h1 := h.n1
  unfold ruleE
  rw [if_neg (by omega), if_neg (by
    rw [h.head]; rintro (e | ⟨e, f⟩)
    · cases e
    · exact h.choice e (List.eq_nil_of_length_eq_zero f)), if_neg (by rw [h.body]; simp), if_neg ?_]
  rintro (⟨e, f⟩ | ⟨e, f⟩)
  · have := h.plain e
    rw [this.1, this.2] at f
    simp at f
  · have a := h.wt e
    have b := h.wlen e
    have c := h.b0 e
    have d := h.b1 e
    unfold wtB at f
    rw [a, b] at f
    simp at f
    omega
theorem RuleIs.wide {r : GRule} {n n' : Int} (h : RuleIs r n) (hn : n ≤ n') (h4 : n' ≤ 4000) : RuleIs r n' :=
  { h with n0 := by have := h.n0; omega, n1 := h4, head := ex_incB h.head hn, body := ex_ordGo hn _ _ h.body }
theorem ex_minGo {n n' : Int} (hn : n ≤ n') : ∀ (xs : List GMin) (q : Option GMin), minGoE n q xs = true → minGoE n' q xs = true
  | [], _, _ => rfl
  | x :: r, q, h => by
    rw [minGoE_cons, Bool.and_eq_true, Bool.and_eq_true] at h ⊢
    refine ⟨⟨?_, h.1.2⟩, ex_minGo hn r _ h.2⟩
    have h1 := h.1.1
    unfold minOk at h1 ⊢
    simp only [Bool.and_eq_true] at h1 ⊢
    exact ⟨⟨⟨ex_ordGo hn _ _ h1.1.1.1, h1.1.1.2⟩, h1.1.2⟩, h1.2⟩
theorem ex_zeros (k : Nat) : ∀ seen : List ByteArray, (∀ t ∈ seen, t.size ≠ 0) → namesGo seen (List.replicate k ByteArray.empty) = true := by
  induction k with
  | zero => intro _ _; rfl
  | succ k ih =>
    intro seen hs
    rw [List.replicate_succ, namesGo_cons]
    have h1 : hasS ByteArray.empty seen = false := by
      unfold hasS
      rw [List.any_eq_false]
      intro t ht e
      have e := of_decide_eq_true e
      exact hs t ht (by rw [e]; rfl)
    rw [h1, if_pos (by rfl), ih seen hs]
    decide
theorem ex_names (k : Nat) : ∀ (xs seen : List ByteArray), (∀ t ∈ seen, t.size ≠ 0) → namesGo seen xs = true → namesGo seen (xs ++ List.replicate k ByteArray.empty) = true
  | [], seen, hs, _ => ex_zeros k seen hs
  | x :: r, seen, hs, h => by
    rw [List.cons_append, namesGo_cons, Bool.and_eq_true]
    rw [namesGo_cons, Bool.and_eq_true] at h
    refine ⟨h.1, ex_names k r _ ?_ h.2⟩
    split
    · exact hs
    · rename_i h0
      intro t ht
      rcases List.mem_cons.1 ht with e | e
      · rw [e]; exact h0
      · exact hs t e
theorem ex_rulesE {n : Int} : ∀ rs : List GRule, (∀ r ∈ rs, ruleE r n = 0) → rulesE n rs = 0
  | [], _ => rfl
  | r :: t, h => by
    unfold rulesE
    rw [if_pos (h r (by simp))]
    exact ex_rulesE t fun x hx => h x (by simp [hx])
theorem ex_validE {p : GProg} (h : ProgIs p) : validE p = 0 := by
  unfold validE
  have h2 := h.few
  have h4 := h.mins
  rw [if_neg (by rw [h.named]; simp), if_neg (by omega), if_neg (by rw [ex_rulesE p.rules fun r hr => ex_ruleE (h.rules r hr)]; simp), if_neg (by omega), if_neg (by rw [h.min]; simp)]
theorem extP_is {p : GProg} {k : Nat} {rs : List GRule} (h : ProgIs p) (hk : p.n + (k : Int) ≤ 4000) (hl : p.rules.length + rs.length ≤ 40000) (hr : ∀ r ∈ rs, RuleIs (normR r) (p.n + k)) : ProgIs (extP p k rs) := by
  have hn : p.n ≤ p.n + (k : Int) := by omega
  refine ⟨?_, ?_, fun r hm => ?_, h.mins, ex_minGo hn _ _ h.min⟩
  · have h1 := h.named
    unfold namedB at h1 ⊢
    simp only [Bool.and_eq_true, decide_eq_true_eq] at h1 ⊢
    obtain ⟨⟨⟨⟨a, b⟩, c⟩, d⟩, e⟩ := h1
    refine ⟨⟨⟨⟨by show 0 ≤ p.n + (k : Int); omega, hk⟩, ?_⟩, ex_incB d hn⟩, ex_names k _ _ (by simp) e⟩
    show (((p.names ++ List.replicate k ByteArray.empty).length : Nat) : Int) = p.n + k
    rw [List.length_append, List.length_replicate]; omega
  · show (p.rules ++ rs.map normR).length ≤ 40000
    rw [List.length_append, List.length_map]; exact hl
  · rcases List.mem_append.1 hm with h1 | h1
    · exact (h.rules r h1).wide hn hk
    · obtain ⟨x, hx, rfl⟩ := List.mem_map.1 h1
      exact hr x hx

theorem wr_case0 {p : GProg} (h : ProgIs p) : validE { p with n := p.n + 1 } = 170 := by
  have h1 : namedB { p with n := p.n + 1 } = false := by
    have h0 := h.named
    unfold namedB at h0
    simp only [Bool.and_eq_true, decide_eq_true_eq] at h0
    have c := h0.1.1.2
    unfold namedB
    have e : decide ((p.names.length : Int) = p.n + 1) = false := decide_eq_false (by omega)
    simp only [e]
    simp
  unfold validE
  rw [if_pos h1]
theorem wr_case1 {n : Int} {m : List Int} (hm : m = [0] ∨ m = [n + 1] ∨ m = [1, 1] ∨ m = [n, n - 1]) : incB n m = false := by
  cases hi : incB n m with
  | false => rfl
  | true =>
    exfalso
    have h1 := inc_mem hi
    have two : ∀ a b : Int, m = [a, b] → litLt a b = true := fun a b e => by
      rw [e] at hi
      unfold incB ordB at hi
      rw [ordGo_cons, ordGo_cons] at hi
      simp only [Bool.and_eq_true] at hi
      exact hi.1.2.1.2
    rcases hm with e | e | e | e
    · have := h1 0 (by rw [e]; simp); omega
    · have := h1 (n + 1) (by rw [e]; simp); omega
    · have := two 1 1 e
      exact absurd this (by decide)
    · have h2 := two n (n - 1) e
      have h3 := h1 n (by rw [e]; simp)
      have h4 := h1 (n - 1) (by rw [e]; simp)
      unfold litLt absI at h2
      simp only [Bool.or_eq_true, Bool.and_eq_true, decide_eq_true_eq] at h2
      omega
theorem wr_check1 {p : GProg} {m : List Int} (hv : validE p = 0) (hm : incB p.n m = false) : checkE p m = 2 ∧ minE p.n p.rules m = 2 ∧ costsE p m = [] := by
  have h1 : checkE p m = 2 := by unfold checkE; rw [if_neg (by simp [hv]), if_pos hm]
  refine ⟨h1, ?_, ?_⟩
  · unfold minE; rw [if_pos (.inr (.inr (.inr hm)))]
  · unfold costsE; rw [h1]; rfl
theorem wr_stable0 {p : GProg} (h : ProgIs p) {k : Nat} (hk : p.n + (k : Int) ≤ 4000) (h0 : 0 ≤ p.n) : isL (extP p k []) [] = isL p [] := by
  have hE := extP_is (rs := []) h hk (by simpa using h.few) (by simp)
  rw [Bool.eq_iff_iff, isL_sem hE (m := []) rfl (show 0 ≤ p.n + (k : Int) by omega), isL_sem h (m := []) rfl h0]
  have e : (extP p k []).rules = p.rules := by show p.rules ++ [] = p.rules; simp
  rw [e]
theorem red_def' {p : GProg} (h : ProgIs p) (hn : p.n ≤ 30) (h0 : 0 ≤ p.n) (hf : p.rules.length ≤ 1000) (m : List Int) (hd : disB p = false) : defB p.n (reductL p.rules m) = true := by
  obtain ⟨N, hN⟩ : ∃ N : Nat, p.n = (N : Int) := ⟨p.n.toNat, by omega⟩
  have hl := reductL_len2 m 30 p.rules fun r hr => by
    have := inc_lenN h0 (h.rules r hr).head
    omega
  refine defB_of h0 (by omega) ?_ fun r hr => ?_
  · have : (30 + 1) * p.rules.length ≤ 31 * 1000 := Nat.mul_le_mul (by omega) hf
    omega
  · have hD := red_def h hd m N hN r hr
    rw [← hN] at hD
    unfold defR
    have h1 := hD.pos
    rw [decide_eq_true (reductL_is m p.rules h.rules r hr).1, hD.plain, decide_eq_true hD.one, List.all_eq_true.2 fun x hx => by have := h1 x hx; simp; omega]
    rfl
def twoR (n : Int) : GRule := ⟨false, [n + 1, n + 2], false, 0, [], []⟩
theorem two_pre {n : Int} (h0 : 0 ≤ n) (h1 : n + 13 ≤ 4000) : PreRule (twoR n) (n + 13) :=
  ⟨by omega, h1, fun a ha => by simp [twoR] at ha; omega, (by intro h; cases h), (by simp [twoR]), fun _ => ⟨rfl, rfl⟩, (by intro h; cases h), (by intro h; cases h), (by intro h; cases h), (by intro h; cases h), by simp [twoR], by simp [twoR]⟩
theorem two_norm {n : Int} (h0 : 0 ≤ n) : normR (twoR n) = twoR n := by
  unfold normR
  have e : litsOf (twoR n).head = [n + 1, n + 2] := lits_id (by
    show List.Pairwise _ [n + 1, n + 2]
    rw [List.pairwise_cons]
    refine ⟨fun b hb => ?_, by simp⟩
    simp at hb; subst hb
    unfold litLt absI
    simp only [Bool.or_eq_true, Bool.and_eq_true, decide_eq_true_eq]
    omega)
  rw [e]; rfl
theorem two_is {n : Int} (h0 : 0 ≤ n) (h1 : n + 13 ≤ 4000) : RuleIs (twoR n) (n + 13) := by
  refine ⟨by omega, h1, ?_, (by intro h; cases h), rfl, fun _ => ⟨rfl, rfl⟩, (by intro h; cases h), (by intro h; cases h), (by intro h; cases h), (by intro h; cases h)⟩
  have l1 : litB (n + 1) (n + 13) = true := by unfold litB; simp only [Bool.and_eq_true, bne_iff_ne, decide_eq_true_eq]; omega
  have l2 : litB (n + 2) (n + 13) = true := by unfold litB; simp only [Bool.and_eq_true, bne_iff_ne, decide_eq_true_eq]; omega
  have l3 : litLt (n + 1) (n + 2) = true := by
    unfold litLt absI
    simp only [Bool.or_eq_true, Bool.and_eq_true, decide_eq_true_eq]
    omega
  show incB (n + 13) [n + 1, n + 2] = true
  unfold incB ordB
  rw [ordGo_cons, ordGo_cons]
  simp only [l1, l2, l3]
  simp [ordGo]
  omega
def newA (n : Int) (k : Nat) : List Int := (List.range k).map fun (i : Nat) => n + 1 + (i : Int)
theorem newA_inc {n : Int} (h0 : 0 ≤ n) (k : Nat) : incB (n + k) (newA n k) = true := by
  have go : ∀ (j : Nat) (q : Option Int) (s : Int), 0 ≤ s → s + (j : Int) ≤ n + k → (∀ y, q = some y → 0 ≤ y ∧ y ≤ s) → ordGo (n + k) q ((List.range j).map fun (i : Nat) => s + 1 + (i : Int)) = true := by
    intro j
    induction j with
    | zero => intro _ _ _ _ _; rfl
    | succ j ih =>
      intro q s h1 h2 h3
      rw [List.range_succ_eq_map, List.map_cons, ordGo_cons]
      have l1 : litB (s + 1 + ((0 : Nat) : Int)) (n + k) = true := by unfold litB; simp only [Bool.and_eq_true, bne_iff_ne, decide_eq_true_eq]; omega
      rw [Bool.and_eq_true, Bool.and_eq_true]
      refine ⟨⟨l1, ?_⟩, ?_⟩
      · cases q with
        | none => rfl
        | some y =>
          have := h3 y rfl
          show litLt y _ = true
          unfold litLt absI
          simp only [Bool.or_eq_true, Bool.and_eq_true, decide_eq_true_eq]
          omega
      · rw [List.map_map]
        have e : ((fun (i : Nat) => s + 1 + (i : Int)) ∘ Nat.succ) = fun (i : Nat) => (s + 1) + 1 + (i : Int) := by
          funext i; simp only [Function.comp]; omega
        rw [e]
        exact ih _ (s + 1) (by omega) (by omega) (fun y hy => by injection hy with hy; omega)
  unfold incB ordB newA
  rw [go k none n h0 (by omega) (by simp), List.all_eq_true.2 fun x hx => ?_]
  · rfl
  · obtain ⟨i, _, rfl⟩ := List.mem_map.1 hx
    exact decide_eq_true (by omega)
end Go.Proofs.YtdmcclfagjgcgaaGreat

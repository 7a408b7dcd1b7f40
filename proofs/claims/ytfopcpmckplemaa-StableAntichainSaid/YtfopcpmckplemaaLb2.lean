/- The law StableConstraint: it answers true and changes nothing that was there. -/
import Derived.Test.YtfopcpmckplemaaSl3
import Derived.Test.YtfopcpmckplemaaOgn
import Derived.Test.YtfopcpmckplemaaInv
namespace Go.Proofs.Ytfopcpmckplemaa
open Go.RowKit

theorem rulesE_snoc {n : Int} {r : GRule} (hr : ruleE r n = 0) : ∀ l : List GRule, rulesE n l = 0 → rulesE n (l ++ [r]) = 0
  | [], _ => by
    show rulesE n [r] = 0
    unfold rulesE
    rw [if_pos hr]; rfl
  | x :: t, h => by
    have hx : ruleE x n = 0 := rulesE_mem h x (by simp)
    rw [List.cons_append]
    unfold rulesE at h ⊢
    rw [if_pos hx] at h ⊢
    exact rulesE_snoc hr t h
theorem validE_parts {p : GProg} (h : validE p = 0) : namedB p = true ∧ p.rules.length ≤ 40000 ∧ rulesE p.n p.rules = 0 ∧ p.min.length ≤ 8 ∧ minGoE p.n none p.min = true := by
  unfold validE at h
  split at h
  · cases h
  · rename_i h1
    split at h
    · cases h
    · rename_i h2
      split at h
      · rename_i h3; exact absurd h h3
      · rename_i h3
        split at h
        · cases h
        · rename_i h4
          split at h
          · cases h
          · rename_i h5
            exact ⟨by simpa using h1, by omega, by simpa using h3, by omega, by simpa using h5⟩
theorem validE_of {p : GProg} (h1 : namedB p = true) (h2 : p.rules.length ≤ 40000) (h3 : rulesE p.n p.rules = 0) (h4 : p.min.length ≤ 8) (h5 : minGoE p.n none p.min = true) : validE p = 0 := by
  unfold validE
  rw [if_neg (by simp [h1]), if_neg (by omega), if_neg (by simp [h3]), if_neg (by omega), if_neg (by simp [h5])]
theorem valid_snoc {p : GProg} {r : GRule} (h : validE p = 0) (hr : ruleE r p.n = 0) (hl : p.rules.length < 40000) : validE { p with rules := p.rules ++ [r] } = 0 := by
  obtain ⟨h1, h2, h3, h4, h5⟩ := validE_parts h
  exact validE_of h1 (by simp; omega) (rulesE_snoc hr _ h3) h4 h5
/-- A rule added to a small program. -/
theorem small_snoc {p : GProg} {r : GRule} (h : smallB p = true) (hr : ruleE r p.n = 0) : validE { p with rules := p.rules ++ [r] } = 0 ∧ SmallP { p with rules := p.rules ++ [r] } := by
  obtain ⟨h1, h2, h3⟩ := small_is h
  have h4 := (few_head h1).1
  have hv := valid_snoc h3 hr (by omega)
  exact ⟨hv, validE_is hv, by have := valid_n h3; exact this, by show p.n ≤ 12; omega, by simp; omega⟩
/-- The rule without its head. -/
def bareR (r : GRule) : GRule := { r with choice := false, head := [] }
structure ConLaw (p : GProg) (r : GRule) (all : List (List Int)) : Prop where
  v : validE p = 0
  s : SmallP p
  qv : validE { p with rules := p.rules ++ [bareR r] } = 0
  qs : SmallP { p with rules := p.rules ++ [bareR r] }
  all : allL { p with rules := p.rules ++ [bareR r] } = all.filter fun m => !bodyC (bareR r) m
  few : p.rules.length ≤ 16
theorem con_law {p : GProg} {r : GRule} (h : smallB p = true) (hr : ruleE (bareR r) p.n = 0) : ConLaw p r (allL p) := by
  obtain ⟨h1, h2⟩ := small_snoc h hr
  have hi := ruleE_is hr
  refine ⟨(small_is h).2.2, small_P h, h1, h2, ?_, (few_head (small_is h).1).1⟩
  rw [constraint_all hi rfl rfl]
  congr 1
  funext m
  rw [bodyC_rule hi]

/-- What holds while the region that adds the rule comes up. -/
structure ConJ (w0 X : World) (gp g5 : Nat) (rA : Option Addr) (rl rc : Nat) (rs : List GRule) (r : GRule) (rv : List Value) (W : World) (b0 b1 b2 b3 b4 b5 b6 b7 b8 : Bool) (u26 u27 u28 u29 u30 u31 u32 u33 : Value) : Prop where
  f1 : b1 = true → u27 = .pointer (some ⟨gp, 3, none⟩)
  f2 : b2 = true → u28 = .slice rA rl rc
  f4 : b4 = true → u30 = .agg rv.toArray
  f7 : b7 = true → u33 = .pointer (some ⟨g5, 3, none⟩)
  d2 : b2 = true → b1 = true
  d3 : b3 = true → b0 = true ∧ b2 = true
  d5 : b5 = true → b4 = true
  d6 : b6 = true → b3 = true ∧ b5 = true
  d8 : b8 = true → b0 = true ∧ b1 = true ∧ b2 = true ∧ b3 = true ∧ b4 = true ∧ b5 = true ∧ b6 = true ∧ b7 = true
  bel : b8 = false → Below X.heap.size X W ∧ Below w0.heap.size w0 W
  row : b8 = false → ∃ v xs, OwnB ruleR 32 w0 X.heap.size W v xs ∧ (b0 = true → b3 = false → u26 = v ∧ xs = []) ∧ (b3 = true → b6 = false → u29 = v ∧ xs = rs) ∧ (b6 = true → u32 = v ∧ xs = rs ++ [r]) ∧
    (b5 = true → b6 = false → ∃ g, u31 = .slice (some ⟨g, 0, none⟩) 1 1 ∧ Blk W g 32 rv.toArray ∧ X.heap.size ≤ g ∧ v.ownBlock ≠ some g)
  fin : b8 = true → ∃ v W1, Below X.heap.size X W1 ∧ u32 = v ∧ OwnB ruleR 32 w0 X.heap.size W1 v (rs ++ [r]) ∧ W = W1.setCell ⟨g5, 3, none⟩ v
section
variable {w0 X : World} {gp g5 : Nat} {rA : Option Addr} {rl rc : Nat} {rs : List GRule} {r : GRule} {rv : List Value} {W : World} {b0 b1 b2 b3 b4 b5 b6 b7 b8 : Bool} {u26 u27 u28 u29 u30 u31 u32 u33 : Value}
theorem ConJ.start (h0 : Below w0.heap.size w0 X) (h1 : Below X.heap.size X W) : ConJ w0 X gp g5 rA rl rc rs r rv W false false false false false false false false false u26 u27 u28 u29 u30 u31 u32 u33 :=
  ⟨by simp, by simp, by simp, by simp, by simp, by simp, by simp, by simp, by simp, fun _ => ⟨h1, bel_trans h0 h1⟩, fun _ => ⟨.slice none 0 0, [], OwnB.nil (bel_trans h0 h1) h0.size h1.size, by simp, by simp, by simp, by simp⟩, by simp⟩
theorem ConJ.n8 (h : ConJ w0 X gp g5 rA rl rc rs r rv W b0 b1 b2 b3 b4 b5 b6 b7 b8 u26 u27 u28 u29 u30 u31 u32 u33) (hb : (b0 && b1 && b2 && b3 && b4 && b5 && b6 && b7) = false) : b8 = false := by
  cases b8 with
  | false => rfl
  | true =>
    obtain ⟨rfl, rfl, rfl, rfl, rfl, rfl, rfl, rfl⟩ := h.d8 rfl
    cases hb
theorem ConJ.own32 (h : ConJ w0 X gp g5 rA rl rc rs r rv W b0 b1 b2 b3 b4 b5 true b7 false u26 u27 u28 u29 u30 u31 u32 u33) : ∃ (A : Option Addr) (l c : Nat), u32 = .slice A l c := by
  obtain ⟨v, xs, hv, -, -, k6, -⟩ := h.row rfl
  obtain ⟨rfl, rfl⟩ := k6 rfl
  rcases hv.2 with ⟨cs, h2, _⟩
  rcases h2.2 with ⟨rfl, _⟩ | ⟨_, _, _, rfl, _⟩
  · exact ⟨_, _, _, rfl⟩
  · exact ⟨_, _, _, rfl⟩
theorem ConJ.op0 (h : ConJ w0 X gp g5 rA rl rc rs r rv W false b1 b2 b3 b4 b5 b6 b7 b8 u26 u27 u28 u29 u30 u31 u32 u33) :
    ConJ w0 X gp g5 rA rl rc rs r rv (W.alloc (.cells #[] 32)) true b1 b2 b3 b4 b5 b6 b7 b8 (.slice (some ⟨W.heap.size, 0, none⟩) 0 0) u27 u28 u29 u30 u31 u32 u33 := by
  have h8 : b8 = false := by cases b8 with | false => rfl | true => have := (h.d8 rfl).1; cases this
  have h3 : b3 = false := by cases b3 with | false => rfl | true => have := (h.d3 rfl).1; cases this
  have h6 : b6 = false := by cases b6 with | false => rfl | true => have := (h.d6 rfl).1; rw [h3] at this; cases this
  subst h8 h3 h6
  obtain ⟨v, xs, hv, -, -, -, k5⟩ := h.row rfl
  refine { h with d3 := by simp, d8 := by simp, bel := fun _ => ⟨(h.bel rfl).1.alloc (h.bel rfl).1.size _, (h.bel rfl).2.alloc (h.bel rfl).2.size _⟩, fin := by simp, row := fun _ => ⟨_, [], OwnB.empty (h.bel rfl).2 hv.1.2.1 (h.bel rfl).1.size rfl, fun _ _ => ⟨rfl, rfl⟩, by simp, by simp, fun q5 _ => ?_⟩ }
  obtain ⟨g, e, hb, hg, _⟩ := k5 q5 rfl
  exact ⟨g, e, hb.alloc _, hg, by have := hb.lt; simp [Value.ownBlock]; omega⟩
theorem ConJ.op3 (h : ConJ w0 X gp g5 rA rl rc rs r rv W true b1 true false b4 b5 b6 b7 b8 u26 u27 u28 u29 u30 u31 u32 u33) (hs : SlIs ruleR w0 rA rl rc rs) (hl : rl ≤ 1000) (ty : TypeId) :
    ∃ v' w', (Builtin.append_ #[24, 24] ty #[u26, .slice rA rl rc]).run Try.prog W = .ok v' w' ∧ ConJ w0 X gp g5 rA rl rc rs r rv w' true b1 true true b4 b5 b6 b7 b8 u26 u27 u28 v' u30 u31 u32 u33 := by
  have h8 : b8 = false := by cases b8 with | false => rfl | true => have := (h.d8 rfl).2.2.2.1; cases this
  have h6 : b6 = false := by cases b6 with | false => rfl | true => have := (h.d6 rfl).1; cases this
  subst h8 h6
  obtain ⟨v, xs, hv, k0, -, -, k5⟩ := h.row rfl
  obtain ⟨rfl, rfl⟩ := k0 rfl rfl
  obtain ⟨v', w', hrun, h1, h2, h3⟩ := hv.appS ety_rule hs (by simp; omega) ty
  refine ⟨v', w', hrun, { h with d3 := fun _ => ⟨rfl, rfl⟩, d6 := by simp, d8 := by simp, bel := fun _ => ⟨bel_grown (h.bel rfl).1 h2 (h.bel rfl).1.size (fun q hq => (hv.lt hq).1), h1.below⟩, fin := by simp, row := fun _ => ⟨v', rs, by simpa using h1, by simp, fun _ _ => ⟨rfl, rfl⟩, by simp, fun q5 _ => ?_⟩ }⟩
  obtain ⟨g, e, hb, hg, hne⟩ := k5 q5 rfl
  exact ⟨g, e, hb.grown h2 (fun e => hne e.symm), hg, fun e => by
    rcases h3 g e with h4 | h4
    · exact hne h4
    · have := hb.lt; omega⟩
theorem ConJ.op5 (h : ConJ w0 X gp g5 rA rl rc rs r rv W b0 b1 b2 b3 true false b6 b7 b8 u26 u27 u28 u29 u30 u31 u32 u33) :
    ConJ w0 X gp g5 rA rl rc rs r rv (W.alloc (.cells rv.toArray 32)) b0 b1 b2 b3 true true b6 b7 b8 u26 u27 u28 u29 u30 (.slice (some ⟨W.heap.size, 0, none⟩) 1 1) u32 u33 := by
  have h8 : b8 = false := by cases b8 with | false => rfl | true => have := (h.d8 rfl).2.2.2.2.2.1; cases this
  have h6 : b6 = false := by cases b6 with | false => rfl | true => have := (h.d6 rfl).2; cases this
  subst h8 h6
  obtain ⟨v, xs, hv, k0, k3, -, -⟩ := h.row rfl
  refine { h with d5 := fun _ => rfl, d6 := by simp, d8 := by simp, bel := fun _ => ⟨(h.bel rfl).1.alloc (h.bel rfl).1.size _, (h.bel rfl).2.alloc (h.bel rfl).2.size _⟩, fin := by simp, row := fun _ => ⟨v, xs, hv.bel (bel_alloc _ _), k0, k3, by simp, fun _ _ => ⟨_, rfl, Blk.new _ _ _, (h.bel rfl).1.size, fun e => ?_⟩⟩ }
  have := (hv.lt e).2
  omega
theorem ConJ.op6 (h : ConJ w0 X gp g5 rA rl rc rs r rv W b0 b1 b2 true b4 true false b7 b8 u26 u27 u28 u29 u30 u31 u32 u33) (hr : ruleR.is w0 rv r) (hl : rs.length ≤ 1000) (ty : TypeId) :
    ∃ g v' w', u31 = .slice (some ⟨g, 0, none⟩) 1 1 ∧ (Builtin.append_ #[24, 24] ty #[u29, .slice (some ⟨g, 0, none⟩) 1 1]).run Try.prog W = .ok v' w' ∧ ConJ w0 X gp g5 rA rl rc rs r rv w' b0 b1 b2 true b4 true true b7 b8 u26 u27 u28 u29 u30 u31 v' u33 := by
  have h8 : b8 = false := by cases b8 with | false => rfl | true => have := (h.d8 rfl).2.2.2.2.2.2.1; cases this
  subst h8
  obtain ⟨v, xs, hv, -, k3, -, k5⟩ := h.row rfl
  obtain ⟨rfl, rfl⟩ := k3 rfl rfl
  obtain ⟨g, e, hb, hg, hne⟩ := k5 rfl rfl
  have hl6 : rv.length = 6 := ruleR.len hr
  obtain ⟨v', w', hrun, h1, h2, h3⟩ := hv.appN ety_rule ⟨g, 0, none⟩ 1 1 rv [r] rfl (by rw [hl6]; rfl) (fun j u hu => by rw [add_none, Nat.zero_add, hb.cell]; simpa using hu) (ruleR.one hr)
    (fun i x hx => by
      match i, hx with
      | 0, hx => simp at hx; subst hx; rw [Nat.zero_mul, List.drop_zero, List.take_of_length_le (by rw [hl6]; exact Nat.le_refl _)]; exact hr
      | i + 1, hx => simp at hx) (by omega) ty
  exact ⟨g, v', w', e, hrun, { h with d6 := fun _ => ⟨rfl, rfl⟩, d8 := by simp, bel := fun _ => ⟨bel_grown (h.bel rfl).1 h2 (h.bel rfl).1.size (fun q hq => (hv.lt hq).1), h1.below⟩, fin := by simp, row := fun _ => ⟨v', xs ++ [r], h1, fun _ e => by simp at e, by simp, fun _ => ⟨rfl, rfl⟩, by simp⟩ }⟩
theorem ConJ.op8 (h : ConJ w0 X gp g5 rA rl rc rs r rv W b0 b1 b2 b3 b4 b5 true true false u26 u27 u28 u29 u30 u31 u32 u33) :
    ConJ w0 X gp g5 rA rl rc rs r rv (W.setCell ⟨g5, 3, none⟩ u32) b0 b1 b2 b3 b4 b5 true true true u26 u27 u28 u29 u30 u31 u32 u33 := by
  obtain ⟨v, xs, hv, -, -, k6, -⟩ := h.row rfl
  obtain ⟨rfl, rfl⟩ := k6 rfl
  obtain ⟨q3, q5⟩ := h.d6 rfl
  exact { h with d8 := fun _ => ⟨(h.d3 q3).1, h.d2 (h.d3 q3).2, (h.d3 q3).2, q3, h.d5 q5, q5, rfl, rfl⟩, bel := by simp, row := by simp, fin := fun _ => ⟨_, _, (h.bel rfl).1, rfl, hv, rfl⟩ }
end

set_option maxRecDepth 100000 in
set_option maxHeartbeats 4000000 in
theorem stableConstraint_law (p : GProg) (nA : Option Addr) (nl nc : Nat) (sA : Option Addr) (sl sc : Nat) (rA : Option Addr) (rl rc : Nat) (mA : Option Addr) (ml mc : Nat) (r : GRule) (hA : Option Addr) (hl hc : Nat) (bA : Option Addr) (bl bc : Nat) (wA : Option Addr) (wl wc : Nat) (w : World) (hp : ProgIn w p nA nl nc sA sl sc rA rl rc mA ml mc) (hr : RuleIn w r hA hl hc bA bl bc wA wl wc) :
    Calls Try.prog 4 #[.agg #[.int .i64 p.n, .slice nA nl nc, .slice sA sl sc, .slice rA rl rc, .slice mA ml mc], .agg #[.bool r.choice, .slice hA hl hc, .bool r.sum, .int .i64 r.bound, .slice bA bl bc, .slice wA wl wc]] w fun e w' => e = .returned (.bool true) ∧ Below w.heap.size w w' := by
  have cS := fun W (hb : Below w.heap.size w W) => small_any p nA nl nc sA sl sc rA rl rc mA ml mc W (hp.ext hb)
  have cA := awake20_any
  have hbe0 : Below w.heap.size w ((w.alloc (.cells #[.int .i64 p.n, .slice nA nl nc, .slice sA sl sc, .slice rA rl rc, .slice mA ml mc] 27)).alloc (.cells #[.bool r.choice, .slice hA hl hc, .bool r.sum, .int .i64 r.bound, .slice bA bl bc, .slice wA wl wc] 32)) := bel_trans (bel_alloc _ _) (bel_alloc _ _)
  have hx0 : Blk ((w.alloc (.cells #[.int .i64 p.n, .slice nA nl nc, .slice sA sl sc, .slice rA rl rc, .slice mA ml mc] 27)).alloc (.cells #[.bool r.choice, .slice hA hl hc, .bool r.sum, .int .i64 r.bound, .slice bA bl bc, .slice wA wl wc] 32)) w.heap.size 27 #[.int .i64 p.n, .slice nA nl nc, .slice sA sl sc, .slice rA rl rc, .slice mA ml mc] := (Blk.new w 27 #[.int .i64 p.n, .slice nA nl nc, .slice sA sl sc, .slice rA rl rc, .slice mA ml mc]).alloc _
  have hy0 : Blk ((w.alloc (.cells #[.int .i64 p.n, .slice nA nl nc, .slice sA sl sc, .slice rA rl rc, .slice mA ml mc] 27)).alloc (.cells #[.bool r.choice, .slice hA hl hc, .bool r.sum, .int .i64 r.bound, .slice bA bl bc, .slice wA wl wc] 32)) (w.heap.size + 1) 32 #[.bool r.choice, .slice hA hl hc, .bool r.sum, .int .i64 r.bound, .slice bA bl bc, .slice wA wl wc] := blk_new (by simp) _ _
  cases hsm : smallB p with
  | false =>
    rw [hsm] at cS
    have HP := Lib.hid hp; clear hp
    have HR := Lib.hid hr; clear hr
    have CS := Lib.hid cS; clear cS
    have CA := Lib.hid cA; clear cA
    have HSM := Lib.hid hsm; clear hsm
    have HBE0 := Lib.hid hbe0; clear hbe0
    have HX0 := Lib.hid hx0; clear hx0
    have HY0 := Lib.hid hy0; clear hy0
    go_enter Try.func4, Try.ntmps4
    go_wp2_with fail
    go_fit (CS.out _ HBE0.out); rintro e w1 ⟨rfl, hb1⟩
    have HB1 := Lib.hid (bel_trans HBE0.out hb1)
    clear hb1
    go_wp2_with fail
    go_fit (CA.out _); rintro e w2 ⟨rfl, hb2⟩
    have HB2 := Lib.hid (bel_trans HB1.out hb2)
    clear hb2
    go_wp2_with fail
    go_ret
    exact ⟨rfl, HB2.out⟩
  | true =>
    rw [hsm] at cS
    have cR := fun W (hb : Below w.heap.size w W) => rule_any (bareR r) none 0 0 bA bl bc wA wl wc p.n W ⟨SlIs.nil _ _, hr.bound, hr.body.ext hb, hr.wt.ext hb⟩
    have hL := fun hre => con_law (p := p) (r := r) hsm hre
    have HP := Lib.hid hp; clear hp
    have HR := Lib.hid hr; clear hr
    have CS := Lib.hid cS; clear cS
    have CA := Lib.hid cA; clear cA
    have HSM := Lib.hid hsm; clear hsm
    have HBE0 := Lib.hid hbe0; clear hbe0
    have HX0 := Lib.hid hx0; clear hx0
    have HY0 := Lib.hid hy0; clear hy0
    have HL := Lib.hid hL; clear hL
    by_cases hre : ruleE (bareR r) p.n = 0
    · rw [hre] at cR
      have L := Lib.hid (HL.out hre)
      have HRE := Lib.hid hre; clear hre
      have CR := Lib.hid cR; clear cR
      go_enter Try.func4, Try.ntmps4
      go_wp2_with fail
      go_fit (CS.out _ HBE0.out); rintro e w1 ⟨rfl, hb1⟩
      have HX := Lib.hid (HX0.out.bel hb1)
      have hy := HY0.out.bel hb1
      have HB1 := Lib.hid (bel_trans HBE0.out hb1)
      have hz1 : w.heap.size < w1.heap.size := HX.out.lt
      clear hb1
      obtain ⟨p0, p1, p2, p3, p4, p5⟩ := pcells HX.out
      obtain ⟨r0, r1, r2, r3, r4, r5, r6⟩ := rcells hy
      have f0 := hy.frozen 0
      have f1 := hy.frozen 1
      have hwy : w.heap.size + 1 < w1.heap.size := hy.lt
      go_wp2_with fail
      have hy2 : Blk ((w1.setCell ⟨w.heap.size + 1, 0, none⟩ (.bool false)).setCell ⟨w.heap.size + 1, 1, none⟩ (.slice none 0 0)) (w.heap.size + 1) 32 #[.bool false, .slice none 0 0, .bool r.sum, .int .i64 r.bound, .slice bA bl bc, .slice wA wl wc] := by simpa using (hy.set_ 0 (.bool false)).set_ 1 (.slice none 0 0)
      have hx2 := (HX.out.far (p := ⟨w.heap.size + 1, 0, none⟩) (by simp) (.bool false)).far (p := ⟨w.heap.size + 1, 1, none⟩) (by simp) (.slice none 0 0)
      have hb2 := ((HB1.out).setCell (p := ⟨w.heap.size + 1, 0, none⟩) (by simp) (.bool false)).setCell (p := ⟨w.heap.size + 1, 1, none⟩) (by simp) (.slice none 0 0)
      generalize (w1.setCell ⟨w.heap.size + 1, 0, none⟩ (.bool false)).setCell ⟨w.heap.size + 1, 1, none⟩ (.slice none 0 0) = w2 at *
      clear hy r0 r1 r2 r3 r4 r5 r6 f0 f1 p0 p1 p2 p3 p4 p5 HX HB1
      go_fit (CR.out _ hb2); rintro e w3 ⟨rfl, hb⟩
      have HX := Lib.hid (hx2.bel hb)
      have HY := Lib.hid (hy2.bel hb)
      have HBW := Lib.hid (bel_trans hb2 hb)
      clear hb hy2 hx2 hb2
      obtain ⟨p0, p1, p2, p3, p4, p5⟩ := pcells HX.out
      obtain ⟨r0, r1, r2, r3, r4, r5, r6⟩ := rcells HY.out
      go_wp2_with fail
      have HQ := Lib.hid (Blk.new w3 27 #[.int .i64 p.n, .slice nA nl nc, .slice sA sl sc, .slice rA rl rc, .slice mA ml mc])
      have hba := bel_alloc w3 (.cells #[.int .i64 p.n, .slice nA nl nc, .slice sA sl sc, .slice rA rl rc, .slice mA ml mc] 27)
      replace HX := Lib.hid (HX.out.bel hba)
      replace HY := Lib.hid (HY.out.bel hba)
      replace HBW := Lib.hid (bel_trans HBW.out hba)
      obtain ⟨g5, hg5⟩ : ∃ g5, g5 = w3.heap.size := ⟨_, rfl⟩
      have hg0 : w.heap.size + 1 < w3.heap.size := r6
      rw [← hg5] at hg0 ⊢
      rw [← hg5] at HQ
      generalize w3.alloc (.cells #[.int .i64 p.n, .slice nA nl nc, .slice sA sl sc, .slice rA rl rc, .slice mA ml mc] 27) = w4 at *
      clear hba r0 r1 r2 r3 r4 r5 r6 hg5
      clear p0 p1 p2 p3 p4 p5
      have q3 := HQ.out.cell 3
      obtain ⟨p0, p1, p2, p3, p4, p5⟩ := pcells HX.out
      obtain ⟨r0, r1, r2, r3, r4, r5, r6⟩ := rcells HY.out
      have HRL := Lib.hid (show rl ≤ 1000 by have := L.out.few; have := HP.out.rules.len; omega)
      have HRI := Lib.hid (show ruleR.is w [.bool false, .slice none 0 0, .bool r.sum, .int .i64 r.bound, .slice bA bl bc, .slice wA wl wc] (bareR r) from ⟨_, _, _, rfl, ints_nil _, HR.out.bound, ints_of HR.out.body, ints_of HR.out.wt⟩)
      refine wp_region_inv (fun listed a' w' => ∃ (b0 b1 b2 b3 b4 b5 b6 b7 b8 : Bool) (u26 u27 u28 u29 u30 u31 u32 u33 : Value), listed = #[b0, b1, b2, b3, b4, b5, b6, b7, b8] ∧ a' = { tmps := #[.agg #[.int .i64 p.n, .slice nA nl nc, .slice sA sl sc, .slice rA rl rc, .slice mA ml mc], .agg #[.bool r.choice, .slice hA hl hc, .bool r.sum, .int .i64 r.bound, .slice bA bl bc, .slice wA wl wc], .pointer (some ⟨w.heap.size, 0, none⟩), .pointer (some ⟨w.heap.size + 1, 0, none⟩), .bool false, .pointer (some ⟨g5, 0, none⟩), undef, undef, undef, undef, undef, undef, undef, .agg #[.int .i64 p.n, .slice nA nl nc, .slice sA sl sc, .slice rA rl rc, .slice mA ml mc], .bool true, .bool false, undef, .pointer (some ⟨w.heap.size + 1, 0, none⟩), .pointer (some ⟨w.heap.size + 1, 1, none⟩), .agg #[.bool false, .slice none 0 0, .bool r.sum, .int .i64 r.bound, .slice bA bl bc, .slice wA wl wc], .pointer (some ⟨w.heap.size, 0, none⟩), .int .i64 p.n, .int .i64 0, .bool false, undef, .agg #[.int .i64 p.n, .slice nA nl nc, .slice sA sl sc, .slice rA rl rc, .slice mA ml mc], u26, u27, u28, u29, u30, u31, u32, u33, undef, undef, undef, undef, undef, undef, undef, undef, undef, undef, undef, undef, undef, undef, undef, undef, undef, undef, undef, undef, undef, undef, undef, undef, undef, undef, undef, undef, undef, undef, undef, undef, undef, undef, undef, undef, undef], defers := [] } ∧ ConJ w w4 w.heap.size g5 rA rl rc p.rules (bareR r) [.bool false, .slice none 0 0, .bool r.sum, .int .i64 r.bound, .slice bA bl bc, .slice wA wl wc] w' b0 b1 b2 b3 b4 b5 b6 b7 b8 u26 u27 u28 u29 u30 u31 u32 u33) (by kernel_rfl) ?start ?step ?fin
      case start => exact ⟨false, false, false, false, false, false, false, false, false, _, _, _, _, _, _, _, _, rfl, rfl, ConJ.start HBW.out (Below.refl _ _).drew⟩
      case step =>
        rintro listed a' w' i o ⟨b0, b1, b2, b3, b4, b5, b6, b7, b8, u26, u27, u28, u29, u30, u31, u32, u33, rfl, rfl, h⟩ ho hl hd K hK
        match i, ho, hl, hd with
        | 0, ho, hl, hd =>
          obtain rfl := Option.some.inj ho
          obtain rfl : b0 = false := hl
          have h8 := h.n8 (by simp)
          subst h8
          have hbx := (h.bel rfl).1
          go_simp
          exact hK _ _ ⟨_, _, _, _, _, _, _, _, _, _, _, _, _, _, _, _, _, rfl, rfl, h.op0⟩
        | 1, ho, hl, hd =>
          obtain rfl := Option.some.inj ho
          obtain rfl : b1 = false := hl
          have h8 := h.n8 (by simp)
          subst h8
          have hbx := (h.bel rfl).1
          go_simp
          exact hK _ _ ⟨_, _, _, _, _, _, _, _, _, _, _, _, _, _, _, _, _, rfl, rfl, { h with f1 := fun _ => rfl, d2 := fun _ => rfl, d8 := by simp }⟩
        | 2, ho, hl, hd =>
          obtain rfl := Option.some.inj ho
          obtain rfl : b2 = false := hl
          obtain rfl : b1 = true := hd ⟨1, .data⟩ (by simp) rfl
          have h8 := h.n8 (by simp)
          subst h8
          have hbx := (h.bel rfl).1
          obtain rfl := h.f1 rfl
          have l3 := (hbx.cell (World.block_lt_of_cell? _ _ p3)).trans p3
          go_simp
          exact hK _ _ ⟨_, _, _, _, _, _, _, _, _, _, _, _, _, _, _, _, _, rfl, rfl, { h with f2 := fun _ => rfl, d2 := fun _ => rfl, d3 := fun e => ⟨(h.d3 e).1, rfl⟩, d8 := by simp }⟩
        | 3, ho, hl, hd =>
          obtain rfl := Option.some.inj ho
          obtain rfl : b3 = false := hl
          obtain rfl : b0 = true := hd ⟨0, .data⟩ (by simp) rfl
          obtain rfl : b2 = true := hd ⟨2, .data⟩ (by simp) rfl
          have h8 := h.n8 (by simp)
          subst h8
          have hbx := (h.bel rfl).1
          obtain rfl := h.f2 rfl
          obtain ⟨v', w'', hrun, h'⟩ := h.op3 HP.out.rules HRL.out 24
          refine step_appV (by rfl) _ _ 24 (by rfl) (by rfl) (by rfl) hrun ?_
          exact hK _ _ ⟨_, _, _, _, _, _, _, _, _, _, _, _, _, _, _, _, _, rfl, rfl, h'⟩
        | 4, ho, hl, hd =>
          obtain rfl := Option.some.inj ho
          obtain rfl : b4 = false := hl
          have h8 := h.n8 (by simp)
          subst h8
          have hbx := (h.bel rfl).1
          have m0 := (hbx.cell (World.block_lt_of_cell? _ _ r0)).trans r0
          have m1 := (hbx.cell (World.block_lt_of_cell? _ _ r1)).trans r1
          have m2 := (hbx.cell (World.block_lt_of_cell? _ _ r2)).trans r2
          have m3 := (hbx.cell (World.block_lt_of_cell? _ _ r3)).trans r3
          have m4 := (hbx.cell (World.block_lt_of_cell? _ _ r4)).trans r4
          have m5 := (hbx.cell (World.block_lt_of_cell? _ _ r5)).trans r5
          go_simp
          exact hK _ _ ⟨_, _, _, _, _, _, _, _, _, _, _, _, _, _, _, _, _, rfl, rfl, { h with f4 := fun _ => rfl, d5 := fun _ => rfl, d8 := by simp }⟩
        | 5, ho, hl, hd =>
          obtain rfl := Option.some.inj ho
          obtain rfl : b5 = false := hl
          obtain rfl : b4 = true := hd ⟨4, .data⟩ (by simp) rfl
          have h8 := h.n8 (by simp)
          subst h8
          have hbx := (h.bel rfl).1
          obtain rfl := h.f4 rfl
          go_simp
          exact hK _ _ ⟨_, _, _, _, _, _, _, _, _, _, _, _, _, _, _, _, _, rfl, rfl, h.op5⟩
        | 6, ho, hl, hd =>
          obtain rfl := Option.some.inj ho
          obtain rfl : b6 = false := hl
          obtain rfl : b3 = true := hd ⟨3, .data⟩ (by simp) rfl
          obtain rfl : b5 = true := hd ⟨5, .data⟩ (by simp) rfl
          have h8 := h.n8 (by simp)
          subst h8
          have hbx := (h.bel rfl).1
          obtain ⟨g, v', w'', rfl, hrun, h'⟩ := h.op6 HRI.out (by have := HRL.out; have := HP.out.rules.len; omega) 24
          refine step_appV (by rfl) _ _ 24 (by rfl) (by rfl) (by rfl) hrun ?_
          exact hK _ _ ⟨_, _, _, _, _, _, _, _, _, _, _, _, _, _, _, _, _, rfl, rfl, h'⟩
        | 7, ho, hl, hd =>
          obtain rfl := Option.some.inj ho
          obtain rfl : b7 = false := hl
          have h8 := h.n8 (by simp)
          subst h8
          have hbx := (h.bel rfl).1
          go_simp
          exact hK _ _ ⟨_, _, _, _, _, _, _, _, _, _, _, _, _, _, _, _, _, rfl, rfl, { h with f7 := fun _ => rfl, d8 := by simp }⟩
        | 8, ho, hl, hd =>
          obtain rfl := Option.some.inj ho
          obtain rfl : b8 = false := hl
          obtain rfl : b7 = true := hd ⟨7, .data⟩ (by simp) rfl
          obtain rfl : b6 = true := hd ⟨6, .data⟩ (by simp) rfl
          obtain rfl := h.f7 rfl
          have hbx := (h.bel rfl).1
          have l8 := (hbx.cell (World.block_lt_of_cell? _ _ q3)).trans q3
          have z8 : w'.frozen? ⟨g5, 3, none⟩ = false := (HQ.out.bel hbx).frozen 3
          obtain ⟨oA, ol, oc, rfl⟩ := h.own32
          go_simp
          exact hK _ _ ⟨_, _, _, _, _, _, _, _, _, _, _, _, _, _, _, _, _, rfl, rfl, h.op8⟩
        | i + 9, ho, hl, hd => simp at ho
      case fin =>
        rintro listed a' w' ⟨b0, b1, b2, b3, b4, b5, b6, b7, b8, u26, u27, u28, u29, u30, u31, u32, u33, rfl, rfl, h⟩ hr
        obtain rfl : b0 = true := ready_nil hr (i := 0) rfl (by simp)
        obtain rfl : b1 = true := ready_nil hr (i := 1) rfl (by simp)
        obtain rfl : b2 = true := ready_nil hr (i := 2) rfl (by simp)
        obtain rfl : b3 = true := ready_nil hr (i := 3) rfl (by simp)
        obtain rfl : b4 = true := ready_nil hr (i := 4) rfl (by simp)
        obtain rfl : b5 = true := ready_nil hr (i := 5) rfl (by simp)
        obtain rfl : b6 = true := ready_nil hr (i := 6) rfl (by simp)
        obtain rfl : b7 = true := ready_nil hr (i := 7) rfl (by simp)
        obtain rfl : b8 = true := ready_nil hr (i := 8) rfl (by simp)
        clear hr
        obtain ⟨v, W1, hb1, rfl, hv, rfl⟩ := h.fin rfl
        have hwg : w.heap.size ≤ g5 := by omega
        have hv2 := hv.set (p := ⟨g5, 3, none⟩) hwg HQ.out.lt u32
        obtain ⟨qA, qc, rfl, hqs⟩ := hv2.sl (by simp; have := L.out.few; omega)
        have hx2 := (HX.out.bel hb1).far (p := ⟨g5, 3, none⟩) (by simp; omega) (.slice qA (p.rules ++ [bareR r]).length qc)
        have hy2 := (HY.out.bel hb1).far (p := ⟨g5, 3, none⟩) (by simp; omega) (.slice qA (p.rules ++ [bareR r]).length qc)
        have hq2 : Blk (W1.setCell ⟨g5, 3, none⟩ (.slice qA (p.rules ++ [bareR r]).length qc)) g5 27 #[.int .i64 p.n, .slice nA nl nc, .slice sA sl sc, .slice qA (p.rules ++ [bareR r]).length qc, .slice mA ml mc] := by simpa using (HQ.out.bel hb1).set_ 3 (.slice qA (p.rules ++ [bareR r]).length qc)
        have hbw2 := (bel_trans HBW.out hb1).setCell (p := ⟨g5, 3, none⟩) hwg (.slice qA (p.rules ++ [bareR r]).length qc)
        generalize (p.rules ++ [bareR r]).length = ql at *
        generalize W1.setCell ⟨g5, 3, none⟩ (.slice qA ql qc) = w5 at *
        clear h hv hv2 hb1 HX HY HQ HBW p0 p1 p2 p3 p4 p5 r0 r1 r2 r3 r4 r5 r6 q3
        have hqp : ProgIn w5 { p with rules := p.rules ++ [bareR r] } nA nl nc sA sl sc qA ql qc mA ml mc := ⟨HP.out.n, HP.out.names.ext hbw2, HP.out.shown.ext hbw2, hqs, HP.out.min.ext hbw2⟩
        have HX := Lib.hid hx2
        have HY := Lib.hid hy2
        have HXq := Lib.hid hq2
        have HBW := Lib.hid hbw2
        clear hx2 hy2 hq2 hbw2
        obtain ⟨p0, p1, p2, p3, p4, p5⟩ := pcells HX.out
        have HQS := Lib.hid hqs; clear hqs
        have HQP := Lib.hid hqp; clear hqp
        go_wp2_with fail
        go_fit (all_any p _ _ _ _ _ _ _ _ _ _ _ _ _ (HP.out.ext HBW.out) L.out.v L.out.s); rintro e w6 ⟨A, l, c, rfl, hsl, hb⟩
        clear p0 p1 p2 p3 p4 p5
        replace HX := Lib.hid (HX.out.bel hb)
        replace HY := Lib.hid (HY.out.bel hb)
        replace HXq := Lib.hid (HXq.out.bel hb)
        replace HBW := Lib.hid (bel_trans HBW.out hb)
        replace HQP := Lib.hid (HQP.out.ext hb)
        clear hb
        obtain ⟨p0, p1, p2, p3, p4, p5⟩ := pcells HXq.out
        have HSL := Lib.hid hsl; clear hsl
        go_wp2_with fail
        go_fit (all_any { p with rules := p.rules ++ [bareR r] } _ _ _ _ _ _ _ _ _ _ _ _ _ HQP.out L.out.qv L.out.qs); rintro e w7 ⟨kA, kl, kc, rfl, hsk, hb⟩
        rw [L.out.all] at hsk
        clear p0 p1 p2 p3 p4 p5
        replace HY := Lib.hid (HY.out.bel hb)
        replace HBW := Lib.hid (bel_trans HBW.out hb)
        replace HSL := Lib.hid (HSL.out.ext hb)
        clear hb HX HXq HQP HQS
        obtain ⟨r0, r1, r2, r3, r4, r5, r6⟩ := rcells HY.out
        have hll := HSL.out.len
        have hlc := HSL.out.cap
        have hlm := HSL.out.max
        have h12 := L.out.s.all_le
        generalize allL p = all at *
        have HSK := Lib.hid hsk; clear hsk
        have HLL := Lib.hid hll; clear hll
        go_wp2_with fail
        clear r0 r1 r2 r3 r4 r5 r6
        go_loopw [10, 52] (fun v t wr => ∃ (k : Nat), k ≤ l ∧ t = .int .i64 (k : Int) ∧ OwnB (slR intR) 23 w7 w7.heap.size wr v ((all.take k).filter fun m => !bodyC (bareR r) m)) (fun _ t _ => l - (intOf t).toNat)
        case atStart => exact ⟨0, Nat.zero_le _, rfl, by simpa using OwnB.nil (Below.refl _ _) (Nat.le_refl _) (Nat.le_refl _)⟩
        case round =>
          obtain ⟨k, hk, rfl, hw⟩ := hrel
          by_cases hlt : k < l
          · obtain ⟨m, hm, -⟩ := HSL.out.drop hlt
            have hft := filter_take (f := fun m => !bodyC (bareR r) m) hm
            obtain ⟨ab, ao, xA', xl', xc', rfl, hab, cm1, sm1⟩ := HSL.out.set hm
            have hbw := hw.below
            have cm := (hbw.cell (p := ⟨ab, ao + k, none⟩) hab).trans cm1
            have sm := sm1.ext hbw
            have hy1 := HY.out.bel hbw
            obtain ⟨r0, r1, r2, r3, r4, r5, r6⟩ := rcells hy1
            have k0 : (0 : Int) ≤ (k : Int) := by omega
            have k1 : (k : Int) < (l : Int) := by omega
            have hbwr := bel_trans HBW.out hbw
            have cB := bodyOut_any (bareR r) none 0 0 bA bl bc wA wl wc xA' xl' xc' m wr ⟨SlIs.nil _ _, HR.out.bound, HR.out.body.ext hbwr, HR.out.wt.ext hbwr⟩ sm
            have hfl := List.length_filter_le (fun m => !bodyC (bareR r) m) (all.take k)
            have htl : (all.take k).length ≤ k := List.length_take_le _ _
            have hk4 : k ≤ 4096 := by have := HLL.out; omega
            cases hq : bodyC (bareR r) m with
            | true =>
              rw [hq] at cB
              simp only [hq, Bool.not_true, Bool.false_eq_true, if_false] at hft
              clear cm1 hfl htl
              have HFT := Lib.hid hft; clear hft
              have HM := Lib.hid hm; clear hm
              have SM := Lib.hid sm; clear sm
              have SM1 := Lib.hid sm1; clear sm1
              have HW := Lib.hid hw; clear hw
              have HBW := Lib.hid hbw; clear hbw
              have HBWR := Lib.hid hbwr; clear hbwr
              have HY1 := Lib.hid hy1; clear hy1
              have CB := Lib.hid cB; clear cB
              have HQ := Lib.hid hq; clear hq
              go_wp2_with fail
              go_fit CB.out; rintro e w8 ⟨rfl, hb8⟩
              have ho := HW.out.bel hb8
              rw [← HFT.out] at ho
              have HB8 := Lib.hid hb8
              clear hb8 r0 r1 r2 r3 r4 r5 r6 cm
              have HO := Lib.hid ho; clear ho
              go_wp2_with fail
              go_roundw
              case rel => exact ⟨k + 1, by omega, by go_num, HO.out⟩
              case measure => simp [intOf]; omega
            | false =>
              rw [hq] at cB
              simp only [hq, Bool.not_false, if_true] at hft
              clear cm1
              have HFT := Lib.hid hft; clear hft
              have HM := Lib.hid hm; clear hm
              have SM := Lib.hid sm; clear sm
              have SM1 := Lib.hid sm1; clear sm1
              have HW := Lib.hid hw; clear hw
              have HBW := Lib.hid hbw; clear hbw
              have HBWR := Lib.hid hbwr; clear hbwr
              have HY1 := Lib.hid hy1; clear hy1
              have CB := Lib.hid cB; clear cB
              have HQ := Lib.hid hq; clear hq
              go_wp2_with fail
              go_fit CB.out; rintro e w8 ⟨rfl, hb8⟩
              obtain ⟨v', w9, hrun, ho, -, -⟩ := (HW.out.bel hb8).app1 ety_set [.slice xA' xl' xc'] m ⟨_, _, _, rfl, SM1.out⟩ (by omega) 33
              rw [← HFT.out] at ho
              have HB8 := Lib.hid hb8
              clear hb8 r0 r1 r2 r3 r4 r5 r6 cm hfl htl
              have HRUN := Lib.hid hrun; clear hrun
              have HO := Lib.hid ho; clear ho
              go_wp2_with (at_builtin; refine wpList_append_run rfl _ _ _ rfl _ _ rfl rfl _ _ HRUN.out ?_)
              go_roundw
              case rel => exact ⟨k + 1, by omega, by go_num, HO.out⟩
              case measure => simp [intOf]; omega
          · obtain rfl : l = k := by omega
            rw [List.take_of_length_le (by rw [HLL.out]; exact Nat.le_refl _)] at hw
            have hbw := hw.below
            have hfl := List.length_filter_le (fun m => !bodyC (bareR r) m) all
            obtain ⟨zA', zc', rfl, hos⟩ := hw.sl (by omega)
            have hk9 := HSK.out.ext hbw
            have HBX := Lib.hid (bel_trans HBW.out hbw)
            clear hbw
            generalize (all.filter fun m => !bodyC (bareR r) m) = out at *
            have HW := Lib.hid hw; clear hw
            have HOS := Lib.hid hos; clear hos
            have HK9 := Lib.hid hk9; clear hk9
            go_wp2_with fail
            go_fit (lists_any _ _ _ _ _ _ out out _ HK9.out HOS.out); rintro e wx ⟨rfl, hb⟩
            rw [show decide (out = out) = true from by simp]
            have HBY := Lib.hid (bel_trans HBX.out hb)
            clear hb
            go_wp2_with fail
            go_fit (CA.out _); rintro e wy ⟨rfl, hb⟩
            have HBZ := Lib.hid (bel_trans HBY.out hb)
            clear hb
            go_wp2_with fail
            go_ret
            exact ⟨rfl, HBZ.out⟩
    · generalize ruleE (bareR r) p.n = q at *
      have q1 : (q != 0) = true := by simpa using hre
      have HRE := Lib.hid hre; clear hre
      have CR := Lib.hid cR; clear cR
      go_enter Try.func4, Try.ntmps4
      go_wp2_with fail
      go_fit (CS.out _ HBE0.out); rintro e w1 ⟨rfl, hb1⟩
      have HX := Lib.hid (HX0.out.bel hb1)
      have hy := HY0.out.bel hb1
      have HB1 := Lib.hid (bel_trans HBE0.out hb1)
      clear hb1
      obtain ⟨p0, p1, p2, p3, p4, p5⟩ := pcells HX.out
      obtain ⟨r0, r1, r2, r3, r4, r5, r6⟩ := rcells hy
      have f0 := hy.frozen 0
      have f1 := hy.frozen 1
      have hwy : w.heap.size + 1 < w1.heap.size := hy.lt
      have HY := Lib.hid hy; clear hy
      go_wp2_with fail
      have hb2 := ((HB1.out).setCell (p := ⟨w.heap.size + 1, 0, none⟩) (by simp) (.bool false)).setCell (p := ⟨w.heap.size + 1, 1, none⟩) (by simp) (.slice none 0 0)
      generalize (w1.setCell ⟨w.heap.size + 1, 0, none⟩ (.bool false)).setCell ⟨w.heap.size + 1, 1, none⟩ (.slice none 0 0) = w2 at *
      clear HY r0 r1 r2 r3 r4 r5 r6 f0 f1 p0 p1 p2 p3 p4 p5 HX HB1
      go_fit (CR.out _ hb2); rintro e w3 ⟨rfl, hb⟩
      have HBW := Lib.hid (bel_trans hb2 hb)
      clear hb hb2
      go_wp2_with fail
      go_fit (CA.out _); rintro e wy ⟨rfl, hb⟩
      have HBZ := Lib.hid (bel_trans HBW.out hb)
      clear hb
      go_wp2_with fail
      go_ret
      exact ⟨rfl, HBZ.out⟩
end Go.Proofs.Ytfopcpmckplemaa

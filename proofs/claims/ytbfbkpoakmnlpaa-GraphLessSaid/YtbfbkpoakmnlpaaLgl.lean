/- The law GraphLess: it answers true and changes nothing that was there. -/
import Derived.Test.YtbfbkpoakmnlpaaGV
import Derived.Test.YtbfbkpoakmnlpaaRat
import Derived.Test.YtbfbkpoakmnlpaaLep
import Derived.Test.YtbfbkpoakmnlpaaGS
import Derived.Deep.QuietTactic
import Derived.BigQuiet
namespace Go.Proofs.Ytbfbkpoakmnlpaa
open Go.RowKit

/-- A box of a program: made, and set once b holds. -/
def BoxG (cs : Array Value) (B : Nat) (W : World) (u : Value) (b : Bool) : Prop := ∃ g, u = .pointer (some ⟨g, 0, none⟩) ∧ B ≤ g ∧ Blk W g 27 (if b then cs else #[.int .i64 0, .slice none 0 0, .slice none 0 0, .slice none 0 0, .slice none 0 0])
theorem BoxG.bel {cs : Array Value} {B : Nat} {W W' : World} {u : Value} {b : Bool} (h : BoxG cs B W u b) (hb : Below W.heap.size W W') : BoxG cs B W' u b := by
  obtain ⟨g, h1, h2, h3⟩ := h
  exact ⟨g, h1, h2, h3.bel hb⟩
theorem BoxG.ne {cs : Array Value} {B : Nat} {W : World} {u : Value} {b : Bool} (h : BoxG cs B W u b) : Value.pointer (some ⟨W.heap.size, 0, none⟩) ≠ u := by
  obtain ⟨g, rfl, h2, h3⟩ := h
  intro e
  have := h3.lt
  injection e with e; injection e with e; injection e with e; omega
/-- append of a steady slice to an own row, in a region that draws its order. -/
theorem step_appB {α : Type} {R : Rep α} {e : TypeId} {w0 : World} {B : Nat} {ops : Array Oper} {o : Oper} {a : Act} {K : Act → World → Prop} {Q : Exit → Act → World → Prop} {E : Prop} {w : World} (hgd : o.guard = none) (s x : Operand) {t : TypeId} {z : Value} {bytes : Nat}
    (ho : o.op = .call { callee := .builtin .append, args := #[s, x], argTypes := #[t, t] }) (ht : ElTy R t e z bytes)
    {v : Value} {xs : List α} {A : Option Addr} {m c : Nat} {ys : List α} (hs : a.eval s = v) (hx : a.eval x = .slice A m c)
    (h : OwnB R e w0 B w v xs) (hy : SlIs R w0 A m c ys) (hl : xs.length + m ≤ 1099511627776)
    (hK : ∀ v' w', OwnB R e w0 B w' v' (xs ++ ys) → w.grownBy w' v.ownBlock → (∀ k, v'.ownBlock = some k → v.ownBlock = some k ∨ w.heap.size ≤ k) → K (a.put o.dst v') w') :
    if Region.wanted o (yielded ops a.tmps) = true then Oper.wp Try.prog o a w K Q else E := by
  have hw : Region.wanted o (yielded ops a.tmps) = true := by simp [Region.wanted, hgd]
  rw [if_pos hw]
  obtain ⟨v', w', hrun, h1, h2, h3⟩ := h.appS ht hy hl o.type
  unfold Oper.wp execOp
  simp only [ho, resolve, invoke, builtin, Sem.run_bind, Sem.run_pure, Result.andThen_ok, List.map_toArray, List.map_cons, List.map_nil, hs, hx, hrun]
  exact hK _ _ h1 h2 h3
/-- A part of a row of rules that begins behind its head. -/
theorem sl_from6 {α : Type} {R : Rep α} {w : World} {b o l c : Nat} {xs : List α} (h : SlIs R w (some ⟨b, o, none⟩) l c xs) {k : Nat} (hk : k ≤ l) : SlIs R w (some ⟨b, o + k * R.size, none⟩) (l - k) (c - k) (xs.drop k) := by
  have hl := h.1
  refine ⟨by rw [List.length_drop]; omega, Nat.sub_le_sub_right h.2.1 k, ⟨Nat.le_trans (Nat.sub_le _ _) h.2.2.1.1, Nat.le_trans (Nat.sub_le _ _) h.2.2.1.2⟩, fun h0 => ?_⟩
  obtain ⟨ad, e, hlt, hc⟩ := h.2.2.2 (by omega)
  cases e
  refine ⟨_, rfl, hlt, fun i x hx => ?_⟩
  rw [List.getElem?_drop] at hx
  obtain ⟨cs, h1, h2⟩ := hc _ x hx
  refine ⟨cs, h1, fun j u hu => ?_⟩
  have := h2 j u hu
  rw [add_none] at this ⊢
  rw [show o + k * R.size + (i * R.size + j) = o + ((k + i) * R.size + j) by rw [Nat.add_mul]; omega]; exact this
theorem map_take_snoc {α β : Type} (f : α → β) {l : List α} {k : Nat} {x : α} (h : l[k]? = some x) : (l.take (k + 1)).map f = (l.take k).map f ++ [f x] := by rw [take_snoc' h]; simp
set_option maxRecDepth 100000 in
set_option maxHeartbeats 8000000 in
theorem graphLess_law (p : GProg) (nA : Option Addr) (nl nc : Nat) (sA : Option Addr) (sl sc : Nat) (rA : Option Addr) (rl rc : Nat) (mA : Option Addr) (ml mc : Nat) (a : Nat) (ha : a < 65536) (w : World) (hp : ProgIn w p nA nl nc sA sl sc rA rl rc mA ml mc) :
    Calls Try.prog 7 #[.agg #[.int .i64 p.n, .slice nA nl nc, .slice sA sl sc, .slice rA rl rc, .slice mA ml mc], .int .u16 (a : Int)] w fun e w' => e = .returned (.bool true) ∧ Below w.heap.size w w' := by
  have cSm := fun W (hb : Below w.heap.size w W) => fine_any p nA nl nc sA sl sc rA rl rc mA ml mc W (hp.ext hb)
  have cA := awake21_any
  have hx0 := Blk.new w 27 #[.int .i64 p.n, .slice nA nl nc, .slice sA sl sc, .slice rA rl rc, .slice mA ml mc]
  cases hq : fineB p with
  | false =>
    rw [hq] at cSm
    have HP := Lib.hid hp; clear hp
    have CSM := Lib.hid cSm; clear cSm
    have CA := Lib.hid cA; clear cA
    have HX0 := Lib.hid hx0; clear hx0
    have HQ := Lib.hid hq; clear hq
    go_enter Try.func7, Try.ntmps7
    go_wp2_with fail
    go_fit (CSM.out _ (bel_alloc _ _)); rintro e w1 ⟨rfl, hb1⟩
    have HBW := Lib.hid (bel_trans (bel_alloc _ _) hb1)
    have HX := Lib.hid (HX0.out.bel hb1)
    clear hb1
    go_wp2_with fail
    go_fit (CA.out _); rintro e wz ⟨rfl, hbz⟩
    have HB3 := Lib.hid (bel_trans HBW.out hbz)
    clear hbz
    go_wp2_with fail
    go_ret
    exact ⟨rfl, HB3.out⟩
  | true =>
    rw [hq] at cSm
    obtain ⟨hfew, hv⟩ := fine_is hq
    have hpi := validE_is hv
    have hn0 : 0 ≤ p.n := (namedB_n hpi.named).1
    have hn12 := fine_n hfew
    have hrl := fine_rules hfew
    obtain ⟨N, hN⟩ : ∃ N : Nat, N = p.n.toNat := ⟨_, rfl⟩
    have hNn : p.n = (N : Int) := by omega
    have hN12 : N ≤ 12 := by omega
    have hrlen := hp.rules.len
    by_cases hr0 : rl = 0
    · subst hr0
      have HP := Lib.hid hp; clear hp
      have CSM := Lib.hid cSm; clear cSm
      have CA := Lib.hid cA; clear cA
      have HX0 := Lib.hid hx0; clear hx0
      have HQ := Lib.hid hq; clear hq
      have HRLEN := Lib.hid hrlen; clear hrlen
      have HN := Lib.hid hN; clear hN
      have HNN := Lib.hid hNn; clear hNn
      go_enter Try.func7, Try.ntmps7
      go_wp2_with fail
      go_fit (CSM.out _ (bel_alloc _ _)); rintro e w1 ⟨rfl, hb1⟩
      have HBW := Lib.hid (bel_trans (bel_alloc _ _) hb1)
      have HX := Lib.hid (HX0.out.bel hb1)
      clear hb1
      obtain ⟨p0, p1, p2, p3, p4, p5⟩ := pcells HX.out
      go_wp2_with fail
      go_fit (CA.out _); rintro e wz ⟨rfl, hbz⟩
      have HB3 := Lib.hid (bel_trans HBW.out hbz)
      clear hbz
      go_wp2_with fail
      go_ret
      exact ⟨rfl, HB3.out⟩
    · have hrz : ((rl : Int) == 0) = false := by simp; omega
      have hrz2 : ¬ (rl : Int) = 0 := by omega
      obtain ⟨k, hke⟩ : ∃ k, k = a % rl := ⟨_, rfl⟩
      have hkr : k < rl := by rw [hke]; exact Nat.mod_lt _ (by omega)
      have hmi : (a : Int) % (rl : Int) = (k : Int) := by rw [hke]; simp
      have hmt : (a : Int).tmod (rl : Int) = (k : Int) := by rw [Int.tmod_eq_emod_of_nonneg (by omega)]; exact hmi
      have hr16 : rl ≤ 16 := by omega
      clear hke
      rw [hNn] at cSm hx0
      rw [hNn]
      have HP := Lib.hid hp; clear hp
      have CSM := Lib.hid cSm; clear cSm
      have CA := Lib.hid cA; clear cA
      have HX0 := Lib.hid hx0; clear hx0
      have HQ := Lib.hid hq; clear hq
      have HV := Lib.hid hv; clear hv
      have HPI := Lib.hid hpi; clear hpi
      have HFEW := Lib.hid hfew; clear hfew
      have HRLEN := Lib.hid hrlen; clear hrlen
      have HRL := Lib.hid hrl; clear hrl
      have HN := Lib.hid hN; clear hN
      go_enter Try.func7, Try.ntmps7
      go_wp2_with fail
      go_fit (CSM.out _ (bel_alloc _ _)); rintro e w1 ⟨rfl, hb1⟩
      have HBW := Lib.hid (bel_trans (bel_alloc _ _) hb1)
      have HX := Lib.hid (HX0.out.bel hb1)
      clear hb1
      obtain ⟨p0, p1, p2, p3, p4, p5⟩ := pcells HX.out
      go_wp2_with fail
      refine wp_region_inv (fun listed a' w' => ∃ (b0 b1 b2 b3 b4 b5 : Bool) (u47 u48 u6 u7 : Value), listed = #[b0, b1, b2, b3, b4, b5] ∧ a' = { tmps := #[.agg #[.int .i64 (N : Int), .slice nA nl nc, .slice sA sl sc, .slice rA rl rc, .slice mA ml mc], Value.int IntKind.u16 (a : Int), .pointer (some ⟨w.heap.size, 0, none⟩), undef, .bool false, .int .i64 (k : Int), u6, u7, undef, undef, undef, undef, undef, undef, undef, undef, undef, undef, undef, undef, undef, undef, undef, undef, undef, undef, undef, undef, undef, undef, undef, .agg #[.int .i64 (N : Int), .slice nA nl nc, .slice sA sl sc, .slice rA rl rc, .slice mA ml mc], .bool true, .bool false, .bool false, .pointer (some ⟨w.heap.size, 3, none⟩), .slice rA rl rc, .int .i64 (rl : Int), .bool false, .bool false, undef, Value.int IntKind.u16 (a : Int), .int .i64 (a : Int), .pointer (some ⟨w.heap.size, 3, none⟩), .slice rA rl rc, .int .i64 (rl : Int), .int .i64 (k : Int), u47, u48, undef, undef, undef, undef, undef, undef, undef, undef, undef, undef, undef, undef, undef, undef, undef, undef, undef, undef, undef, undef, undef, undef, undef, undef, undef, undef, undef, undef, undef, undef, undef, undef, undef, undef, undef, undef, undef, undef, undef, undef, undef, undef, undef, undef, undef, undef, undef, undef, undef, undef, undef, undef, undef, undef, undef, undef, undef, undef, undef, undef, undef, undef, undef, undef, undef, undef, undef, undef, undef, undef, undef, undef, undef, undef, undef, undef, undef, undef, undef, undef, undef, undef, undef, undef, undef, undef, undef, undef, undef, undef, undef, undef, undef, undef, undef, undef, undef, undef, undef, undef, undef, undef, undef, undef, undef, undef, undef, undef, undef, undef, undef, undef, undef, undef, undef, undef, undef, undef, undef, undef, undef, undef, undef, undef, undef, undef, undef, undef, undef, undef, undef, undef, undef, undef, undef, undef, undef, undef, undef, undef, undef, undef, undef, undef, undef, undef, undef, undef, undef, undef, undef, undef, undef, undef, undef, undef, undef, undef, undef, undef, undef, undef, undef, undef, undef, undef, undef, undef, undef, undef, undef, undef, undef], defers := [] } ∧ (Below w1.heap.size w1 w') ∧ (b0 = true → u47 = .agg #[.int .i64 (N : Int), .slice nA nl nc, .slice sA sl sc, .slice rA rl rc, .slice mA ml mc]) ∧ (b1 = true → u48 = .agg #[.int .i64 (N : Int), .slice nA nl nc, .slice sA sl sc, .slice rA rl rc, .slice mA ml mc]) ∧ (b2 = true → BoxG #[.int .i64 (N : Int), .slice nA nl nc, .slice sA sl sc, .slice rA rl rc, .slice mA ml mc] w1.heap.size w' u6 b4) ∧ (b3 = true → BoxG #[.int .i64 (N : Int), .slice nA nl nc, .slice sA sl sc, .slice rA rl rc, .slice mA ml mc] w1.heap.size w' u7 b5) ∧ (b2 = true → b3 = true → u6 ≠ u7) ∧ (b4 = true → b2 = true) ∧ (b5 = true → b3 = true)) (by kernel_rfl) ?start ?step ?_
      case start => exact ⟨false, false, false, false, false, false, _, _, _, _, rfl, rfl, (Below.refl _ _).drew, (by simp), (by simp), (by simp), (by simp), (by simp), (by simp), (by simp)⟩
      case step =>
        rintro listed a' w' i o ⟨b0, b1, b2, b3, b4, b5, u47, u48, u6, u7, rfl, rfl, hB, f0, f1, f2, f3, fd, c4, c5⟩ ho hli hd K hK
        match i, ho, hli, hd with
        | 0, ho, hli, hd =>
          obtain rfl := Option.some.inj ho
          obtain rfl : b0 = false := hli
          obtain ⟨p0, p1, p2, p3, p4, p5⟩ := pcells (HX.out.bel hB)
          have HH := Lib.hid (And.intro c4 c5)
          clear c4 c5
          go_simp
          exact hK _ _ ⟨_, _, _, _, _, _, _, _, _, _, rfl, rfl, hB, (fun _ => rfl), f1, f2, f3, fd, HH.out.1, HH.out.2⟩
        | 1, ho, hli, hd =>
          obtain rfl := Option.some.inj ho
          obtain rfl : b1 = false := hli
          obtain ⟨p0, p1, p2, p3, p4, p5⟩ := pcells (HX.out.bel hB)
          have HH := Lib.hid (And.intro c4 c5)
          clear c4 c5
          go_simp
          exact hK _ _ ⟨_, _, _, _, _, _, _, _, _, _, rfl, rfl, hB, f0, (fun _ => rfl), f2, f3, fd, HH.out.1, HH.out.2⟩
        | 2, ho, hli, hd =>
          obtain rfl := Option.some.inj ho
          obtain rfl : b2 = false := hli
          have e4 : b4 = false := by
            cases hh : b4 with
            | false => rfl
            | true => have := c4 hh; cases this
          subst e4
          have hb := bel_alloc w' (.cells #[.int .i64 0, .slice none 0 0, .slice none 0 0, .slice none 0 0, .slice none 0 0] 27)
          have hS := hB.size
          have HH := Lib.hid (And.intro c4 c5)
          clear c4 c5
          go_simp
          exact hK _ _ ⟨_, _, _, _, _, _, _, _, _, _, rfl, rfl, (bel_trans hB hb), f0, f1, (fun _ => ⟨_, rfl, hS, Blk.new _ _ _⟩), (fun e => (f3 e).bel hb), (fun _ e => (f3 e).ne), (fun e => by cases e), HH.out.2⟩
        | 3, ho, hli, hd =>
          obtain rfl := Option.some.inj ho
          obtain rfl : b3 = false := hli
          have e5 : b5 = false := by
            cases hh : b5 with
            | false => rfl
            | true => have := c5 hh; cases this
          subst e5
          have hb := bel_alloc w' (.cells #[.int .i64 0, .slice none 0 0, .slice none 0 0, .slice none 0 0, .slice none 0 0] 27)
          have hS := hB.size
          have HH := Lib.hid (And.intro c4 c5)
          clear c4 c5
          go_simp
          exact hK _ _ ⟨_, _, _, _, _, _, _, _, _, _, rfl, rfl, (bel_trans hB hb), f0, f1, (fun e => (f2 e).bel hb), (fun _ => ⟨_, rfl, hS, Blk.new _ _ _⟩), (fun e _ => Ne.symm (f2 e).ne), HH.out.1, (fun e => by cases e)⟩
        | 4, ho, hli, hd =>
          obtain rfl := Option.some.inj ho
          obtain rfl : b4 = false := hli
          obtain rfl : b2 = true := hd ⟨2, .data⟩ (by simp) rfl
          obtain rfl : b0 = true := hd ⟨0, .data⟩ (by simp) rfl
          obtain rfl := f0 rfl
          obtain ⟨g, rfl, hg, hblk⟩ := f2 rfl
          rw [if_pos (by rfl)]
          refine wp_store_row 27 _ _ (by rfl) g #[.int .i64 (N : Int), .slice nA nl nc, .slice sA sl sc, .slice rA rl rc, .slice mA ml mc] (by rfl) (by rfl) 27 _ hblk info_prog (by rfl) (by simp [Value.oneCell']) ?_
          have hk := (Kept.refl [g] w').row (g := g) (.inl (by simp)) #[.int .i64 (N : Int), .slice nA nl nc, .slice sA sl sc, .slice rA rl rc, .slice mA ml mc]
          have hne : ∀ q, u7 = .pointer (some ⟨q, 0, none⟩) → b3 = true → q ≠ g := fun q e e2 e3 => by subst e3; exact fd rfl e2 (e.symm)
          exact hK _ _ ⟨_, _, _, _, _, _, _, _, _, _, rfl, rfl, (Kept.below hB hk hB.size (fun q hq => by simp at hq; omega)), f0, f1, (fun _ => ⟨g, rfl, hg, hblk.row _⟩), (fun e => by obtain ⟨q, e1, e2, e3⟩ := f3 e; exact ⟨q, e1, e2, hk.blk e3 (by simp; exact hne q e1 e)⟩), fd, (fun _ => rfl), c5⟩
        | 5, ho, hli, hd =>
          obtain rfl := Option.some.inj ho
          obtain rfl : b5 = false := hli
          obtain rfl : b3 = true := hd ⟨3, .data⟩ (by simp) rfl
          obtain rfl : b1 = true := hd ⟨1, .data⟩ (by simp) rfl
          obtain rfl := f1 rfl
          obtain ⟨g, rfl, hg, hblk⟩ := f3 rfl
          rw [if_pos (by rfl)]
          refine wp_store_row 27 _ _ (by rfl) g #[.int .i64 (N : Int), .slice nA nl nc, .slice sA sl sc, .slice rA rl rc, .slice mA ml mc] (by rfl) (by rfl) 27 _ hblk info_prog (by rfl) (by simp [Value.oneCell']) ?_
          have hk := (Kept.refl [g] w').row (g := g) (.inl (by simp)) #[.int .i64 (N : Int), .slice nA nl nc, .slice sA sl sc, .slice rA rl rc, .slice mA ml mc]
          have hne : ∀ q, u6 = .pointer (some ⟨q, 0, none⟩) → b2 = true → q ≠ g := fun q e e2 e3 => by subst e3; exact fd e2 rfl (e)
          exact hK _ _ ⟨_, _, _, _, _, _, _, _, _, _, rfl, rfl, (Kept.below hB hk hB.size (fun q hq => by simp at hq; omega)), f0, f1, (fun e => by obtain ⟨q, e1, e2, e3⟩ := f2 e; exact ⟨q, e1, e2, hk.blk e3 (by simp; exact hne q e1 e)⟩), (fun _ => ⟨g, rfl, hg, hblk.row _⟩), fd, c4, (fun _ => rfl)⟩
        | i + 6, ho, hli, hd => simp at ho
      rintro listed a' w' ⟨b0, b1, b2, b3, b4, b5, u47, u48, u6, u7, rfl, rfl, hB, f0, f1, f2, f3, fd, c4, c5⟩ hr
      obtain rfl : b0 = true := ready_nil hr (i := 0) rfl (by first | (simp; done) | (simp; intro q; exact absurd q (by decide)))
      obtain rfl : b1 = true := ready_nil hr (i := 1) rfl (by first | (simp; done) | (simp; intro q; exact absurd q (by decide)))
      obtain rfl : b2 = true := ready_nil hr (i := 2) rfl (by first | (simp; done) | (simp; intro q; exact absurd q (by decide)))
      obtain rfl : b3 = true := ready_nil hr (i := 3) rfl (by first | (simp; done) | (simp; intro q; exact absurd q (by decide)))
      obtain rfl : b4 = true := ready_nil hr (i := 4) rfl (by first | (simp; done) | (simp; intro q; exact absurd q (by decide)))
      obtain rfl : b5 = true := ready_nil hr (i := 5) rfl (by first | (simp; done) | (simp; intro q; exact absurd q (by decide)))
      clear hr
      obtain ⟨g6, rfl, hg6w, hg6⟩ := f2 rfl
      obtain ⟨g7, rfl, hg7w, hg7⟩ := f3 rfl
      have hgne : g6 ≠ g7 := fun e => fd rfl rfl (by rw [e])
      have hg6 : Blk w' g6 27 #[.int .i64 (N : Int), .slice nA nl nc, .slice sA sl sc, .slice rA rl rc, .slice mA ml mc] := hg6
      have hg7 : Blk w' g7 27 #[.int .i64 (N : Int), .slice nA nl nc, .slice sA sl sc, .slice rA rl rc, .slice mA ml mc] := hg7
      clear f0 f1 f2 f3 fd c4 c5
      obtain ⟨w2, rfl⟩ : ∃ w2 : World, w2 = w' := ⟨_, rfl⟩
      have hx2 := HX.out.bel hB
      have hbw2 := bel_trans HBW.out hB
      have hg6w' : w.heap.size < g6 := by have := HX.out.lt; omega
      have hg7w' : w.heap.size < g7 := by have := HX.out.lt; omega
      have hg6l : g6 < w2.heap.size := hg6.lt
      have hg7l : g7 < w2.heap.size := hg7.lt
      have htk : SlIs ruleR w rA k rc (p.rules.take k) := HP.out.rules.take4 (by omega)
      have hrcap := HP.out.rules.cap
      have hrmax := HP.out.rules.max
      obtain ⟨x0, hx0', -⟩ := HP.out.rules.drop hkr
      obtain ⟨rb, ro, _, _, _, _, _, _, _, _, _, hra, -⟩ := HP.out.rules.rule hx0'
      clear hx0'
      subst hra
      have hk1 : k ≤ rc := by omega
      have hk2 : k + 1 ≤ rl := by omega
      have hk3 : (0 : Int) ≤ (k : Int) + 1 := by omega
      have hk4 : (k : Int) + 1 ≤ (rl : Int) := by omega
      have hw9 : IntKind.i64.wrap ((k : Int) + 1) = (k : Int) + 1 := IntWalk.i64_in _ (by omega)
      have hcut : ((k : Int) + 1 = (rc : Int) ∧ rc ≤ rl ∧ SlIs ruleR w (some ⟨rb, ro, none⟩) 0 0 (p.rules.drop (k + 1))) ∨ (¬ (k : Int) + 1 = (rc : Int) ∧ ¬ rc = k + 1 ∧ SlIs ruleR w (some ⟨rb, ro + (k + 1) * 6, none⟩) (rl - (k + 1)) (rc - (k + 1)) (p.rules.drop (k + 1))) := by
        by_cases hk : k + 1 = rc
        · refine .inl ⟨by omega, by omega, ?_⟩
          rw [List.drop_eq_nil_of_le (by have := HRLEN.out; omega)]
          exact ⟨rfl, Nat.zero_le _, ⟨Nat.zero_le _, by omega⟩, fun h => absurd h (by simp)⟩
        · exact .inr ⟨by omega, by omega, sl_from6 HP.out.rules (by omega)⟩
      clear p0 p1 p2 p3 p4 p5
      have HTK := Lib.hid htk; clear htk
      have HCUT := Lib.hid hcut; clear hcut
      have HX2 := Lib.hid hx2; clear hx2
      have HBW2 := Lib.hid hbw2; clear hbw2
      have HG6 := Lib.hid hg6; clear hg6
      have HG7 := Lib.hid hg7; clear hg7
      have HB := Lib.hid hB; clear hB
      go_wp2_with fail
      refine wp_region_inv (fun listed a' w' => ∃ (b0 b1 b2 b3 b4 b5 b6 b7 b8 b9 b10 b11 b12 b13 : Bool) (u49 u50 u51 u52 u53 u54 u55 u56 u57 u58 u59 u60 u61 : Value), listed = #[b0, b1, b2, b3, b4, b5, b6, b7, b8, b9, b10, b11, b12, b13] ∧ a' = { tmps := #[.agg #[.int .i64 (N : Int), .slice nA nl nc, .slice sA sl sc, .slice (some ⟨rb, ro, none⟩) rl rc, .slice mA ml mc], Value.int IntKind.u16 (a : Int), .pointer (some ⟨w.heap.size, 0, none⟩), undef, .bool false, .int .i64 (k : Int), .pointer (some ⟨g6, 0, none⟩), .pointer (some ⟨g7, 0, none⟩), undef, undef, undef, undef, undef, undef, undef, undef, undef, undef, undef, undef, undef, undef, undef, undef, undef, undef, undef, undef, undef, undef, undef, .agg #[.int .i64 (N : Int), .slice nA nl nc, .slice sA sl sc, .slice (some ⟨rb, ro, none⟩) rl rc, .slice mA ml mc], .bool true, .bool false, .bool false, .pointer (some ⟨w.heap.size, 3, none⟩), .slice (some ⟨rb, ro, none⟩) rl rc, .int .i64 (rl : Int), .bool false, .bool false, undef, Value.int IntKind.u16 (a : Int), .int .i64 (a : Int), .pointer (some ⟨w.heap.size, 3, none⟩), .slice (some ⟨rb, ro, none⟩) rl rc, .int .i64 (rl : Int), .int .i64 (k : Int), u47, u48, u49, u50, u51, u52, u53, u54, u55, u56, u57, u58, u59, u60, u61, undef, undef, undef, undef, undef, undef, undef, undef, undef, undef, undef, undef, undef, undef, undef, undef, undef, undef, undef, undef, undef, undef, undef, undef, undef, undef, undef, undef, undef, undef, undef, undef, undef, undef, undef, undef, undef, undef, undef, undef, undef, undef, undef, undef, undef, undef, undef, undef, undef, undef, undef, undef, undef, undef, undef, undef, undef, undef, undef, undef, undef, undef, undef, undef, undef, undef, undef, undef, undef, undef, undef, undef, undef, undef, undef, undef, undef, undef, undef, undef, undef, undef, undef, undef, undef, undef, undef, undef, undef, undef, undef, undef, undef, undef, undef, undef, undef, undef, undef, undef, undef, undef, undef, undef, undef, undef, undef, undef, undef, undef, undef, undef, undef, undef, undef, undef, undef, undef, undef, undef, undef, undef, undef, undef, undef, undef, undef, undef, undef, undef, undef, undef, undef, undef, undef, undef, undef, undef, undef, undef, undef, undef, undef, undef, undef, undef, undef, undef, undef, undef, undef, undef, undef, undef, undef, undef, undef, undef, undef, undef], defers := [] } ∧ (Kept [g6] w2 w') ∧ (b13 = false → Blk w' g6 27 #[.int .i64 (N : Int), .slice nA nl nc, .slice sA sl sc, .slice (some ⟨rb, ro, none⟩) rl rc, .slice mA ml mc]) ∧ (b13 = true → Blk w' g6 27 #[.int .i64 (N : Int), .slice nA nl nc, .slice sA sl sc, u60, .slice mA ml mc]) ∧ (b0 = true → b5 = false → OwnB ruleR 54 w w2.heap.size w' u49 []) ∧ (b5 = true → b11 = false → OwnB ruleR 54 w w2.heap.size w' u54 (p.rules.take k)) ∧ (b11 = true → OwnB ruleR 54 w w2.heap.size w' u60 (p.rules.take k ++ p.rules.drop (k + 1))) ∧ (b10 = true → ∃ A l c, u59 = .slice A l c ∧ SlIs ruleR w A l c (p.rules.drop (k + 1))) ∧ (b1 = true → u50 = .pointer (some ⟨w.heap.size, 3, none⟩)) ∧ (b2 = true → u51 = .slice (some ⟨rb, ro, none⟩) rl rc) ∧ (b3 = true → u52 = .int .i64 (k : Int)) ∧ (b4 = true → u53 = .slice (some ⟨rb, ro, none⟩) k rc) ∧ (b6 = true → u55 = .pointer (some ⟨w.heap.size, 3, none⟩)) ∧ (b7 = true → u56 = .slice (some ⟨rb, ro, none⟩) rl rc) ∧ (b8 = true → u57 = .int .i64 (k : Int)) ∧ (b9 = true → u58 = .int .i64 ((k : Int) + 1)) ∧ (b12 = true → u61 = .pointer (some ⟨g6, 3, none⟩)) ∧ (b5 = true → b0 = true) ∧ (b11 = true → b5 = true) ∧ (b13 = true → b11 = true ∧ b12 = true)) (by kernel_rfl) ?start ?step ?_
      case start => exact ⟨false, false, false, false, false, false, false, false, false, false, false, false, false, false, _, _, _, _, _, _, _, _, _, _, _, _, _, rfl, rfl, (Kept.refl _ _).drew, (fun _ => HG6.out.drew), (by simp), (by simp), (by simp), (by simp), (by simp), (by simp), (by simp), (by simp), (by simp), (by simp), (by simp), (by simp), (by simp), (by simp), (by simp), (by simp), (by simp)⟩
      case step =>
        rintro listed a' w' i o ⟨b0, b1, b2, b3, b4, b5, b6, b7, b8, b9, b10, b11, b12, b13, u49, u50, u51, u52, u53, u54, u55, u56, u57, u58, u59, u60, u61, rfl, rfl, hk0, hg, hG, f0, f5, f11, f10, f1, f2, f3, f4, f6, f7, f8, f9, f12, c5, c11, c13⟩ ho hli hd K hK
        match i, ho, hli, hd with
        | 0, ho, hli, hd =>
          obtain rfl := Option.some.inj ho
          obtain rfl : b0 = false := hli
          have e5 : b5 = false := by
            cases hh : b5 with
            | false => rfl
            | true => have := c5 hh; cases this
          subst e5
          have e11 : b11 = false := by
            cases hh : b11 with
            | false => rfl
            | true => have := c11 hh; cases this
          subst e11
          have e13 : b13 = false := by
            cases hh : b13 with
            | false => rfl
            | true => have := (c13 hh).1; cases this
          subst e13
          have hb := bel_alloc w' (.cells #[] 54)
          have ho0 := OwnB.empty (R := ruleR) (e := 54) (w0 := w) (B := w2.heap.size) (W := w') (Kept.below HBW2.out hk0 HBW2.out.size (by simp; omega)) HBW2.out.size hk0.size rfl
          have HH := Lib.hid (And.intro c5 (And.intro c11 c13))
          clear c5 c11 c13
          go_simp
          exact hK _ _ ⟨_, _, _, _, _, _, _, _, _, _, _, _, _, _, _, _, _, _, _, _, _, _, _, _, _, _, _, rfl, rfl, (hk0.bel hb), (fun e => (hg e).bel hb), (fun e => by cases e), (fun _ _ => ho0), (fun e => by cases e), (fun e => by cases e), f10, f1, f2, f3, f4, f6, f7, f8, f9, f12, (fun e => by cases e), (fun e => by cases e), (fun e => by cases e)⟩
        | 1, ho, hli, hd =>
          obtain rfl := Option.some.inj ho
          obtain rfl : b1 = false := hli
          have HH := Lib.hid (And.intro c5 (And.intro c11 c13))
          clear c5 c11 c13
          go_simp
          exact hK _ _ ⟨_, _, _, _, _, _, _, _, _, _, _, _, _, _, _, _, _, _, _, _, _, _, _, _, _, _, _, rfl, rfl, hk0, hg, hG, f0, f5, f11, f10, (fun _ => rfl), f2, f3, f4, f6, f7, f8, f9, f12, HH.out.1, HH.out.2.1, HH.out.2.2⟩
        | 2, ho, hli, hd =>
          obtain rfl := Option.some.inj ho
          obtain rfl : b2 = false := hli
          obtain rfl : b1 = true := hd ⟨1, .data⟩ (by simp) rfl
          obtain rfl := f1 rfl
          have hm3 : w'.cell? ⟨w.heap.size, 3, none⟩ = some (.slice (some ⟨rb, ro, none⟩) rl rc) := (hk0.blk HX2.out (by simp; omega)).cell 3
          have HH := Lib.hid (And.intro c5 (And.intro c11 c13))
          clear c5 c11 c13
          go_simp
          exact hK _ _ ⟨_, _, _, _, _, _, _, _, _, _, _, _, _, _, _, _, _, _, _, _, _, _, _, _, _, _, _, rfl, rfl, hk0, hg, hG, f0, f5, f11, f10, f1, (fun _ => rfl), f3, f4, f6, f7, f8, f9, f12, HH.out.1, HH.out.2.1, HH.out.2.2⟩
        | 3, ho, hli, hd =>
          obtain rfl := Option.some.inj ho
          obtain rfl : b3 = false := hli
          have HH := Lib.hid (And.intro c5 (And.intro c11 c13))
          clear c5 c11 c13
          go_simp
          exact hK _ _ ⟨_, _, _, _, _, _, _, _, _, _, _, _, _, _, _, _, _, _, _, _, _, _, _, _, _, _, _, rfl, rfl, hk0, hg, hG, f0, f5, f11, f10, f1, f2, (fun _ => rfl), f4, f6, f7, f8, f9, f12, HH.out.1, HH.out.2.1, HH.out.2.2⟩
        | 4, ho, hli, hd =>
          obtain rfl := Option.some.inj ho
          obtain rfl : b4 = false := hli
          obtain rfl : b2 = true := hd ⟨2, .data⟩ (by simp) rfl
          obtain rfl : b3 = true := hd ⟨3, .data⟩ (by simp) rfl
          obtain rfl := f2 rfl
          obtain rfl := f3 rfl
          have HH := Lib.hid (And.intro c5 (And.intro c11 c13))
          clear c5 c11 c13
          go_simp
          exact hK _ _ ⟨_, _, _, _, _, _, _, _, _, _, _, _, _, _, _, _, _, _, _, _, _, _, _, _, _, _, _, rfl, rfl, hk0, hg, hG, f0, f5, f11, f10, f1, f2, f3, (fun _ => rfl), f6, f7, f8, f9, f12, HH.out.1, HH.out.2.1, HH.out.2.2⟩
        | 5, ho, hli, hd =>
          obtain rfl := Option.some.inj ho
          obtain rfl : b5 = false := hli
          obtain rfl : b0 = true := hd ⟨0, .data⟩ (by simp) rfl
          obtain rfl : b4 = true := hd ⟨4, .data⟩ (by simp) rfl
          obtain rfl := f4 rfl
          have e11 : b11 = false := by
            cases hh : b11 with
            | false => rfl
            | true => have := c11 hh; cases this
          subst e11
          have e13 : b13 = false := by
            cases hh : b13 with
            | false => rfl
            | true => have := (c13 hh).1; cases this
          subst e13
          refine step_appB (by rfl) _ _ (by rfl) ety_rule (by rfl) (by rfl) (f0 rfl rfl) (HTK.out) (by simp; omega) (fun v' w9 q1 q2 q3 => ?_)
          have hk9 : Kept [g6] w2 w9 := hk0.grown q2 (fun q hq => .inr ((f0 rfl rfl).lt hq).1)
          have hg9 : Blk w9 g6 27 #[.int .i64 (N : Int), .slice nA nl nc, .slice sA sl sc, .slice (some ⟨rb, ro, none⟩) rl rc, .slice mA ml mc] := (hg rfl).grown q2 (fun e => by have := ((f0 rfl rfl).lt e.symm).1; omega)
          exact hK _ _ ⟨_, _, _, _, _, _, _, _, _, _, _, _, _, _, _, _, _, _, _, _, _, _, _, _, _, _, _, rfl, rfl, hk9, (fun _ => hg9), (fun e => by cases e), (fun _ e => by cases e), (fun _ _ => by simpa using q1), (fun e => by cases e), f10, f1, f2, f3, f4, f6, f7, f8, f9, f12, (fun _ => rfl), (fun e => by cases e), (fun e => by cases e)⟩
        | 6, ho, hli, hd =>
          obtain rfl := Option.some.inj ho
          obtain rfl : b6 = false := hli
          have HH := Lib.hid (And.intro c5 (And.intro c11 c13))
          clear c5 c11 c13
          go_simp
          exact hK _ _ ⟨_, _, _, _, _, _, _, _, _, _, _, _, _, _, _, _, _, _, _, _, _, _, _, _, _, _, _, rfl, rfl, hk0, hg, hG, f0, f5, f11, f10, f1, f2, f3, f4, (fun _ => rfl), f7, f8, f9, f12, HH.out.1, HH.out.2.1, HH.out.2.2⟩
        | 7, ho, hli, hd =>
          obtain rfl := Option.some.inj ho
          obtain rfl : b7 = false := hli
          obtain rfl : b6 = true := hd ⟨6, .data⟩ (by simp) rfl
          obtain rfl := f6 rfl
          have hm3 : w'.cell? ⟨w.heap.size, 3, none⟩ = some (.slice (some ⟨rb, ro, none⟩) rl rc) := (hk0.blk HX2.out (by simp; omega)).cell 3
          have HH := Lib.hid (And.intro c5 (And.intro c11 c13))
          clear c5 c11 c13
          go_simp
          exact hK _ _ ⟨_, _, _, _, _, _, _, _, _, _, _, _, _, _, _, _, _, _, _, _, _, _, _, _, _, _, _, rfl, rfl, hk0, hg, hG, f0, f5, f11, f10, f1, f2, f3, f4, f6, (fun _ => rfl), f8, f9, f12, HH.out.1, HH.out.2.1, HH.out.2.2⟩
        | 8, ho, hli, hd =>
          obtain rfl := Option.some.inj ho
          obtain rfl : b8 = false := hli
          have HH := Lib.hid (And.intro c5 (And.intro c11 c13))
          clear c5 c11 c13
          go_simp
          exact hK _ _ ⟨_, _, _, _, _, _, _, _, _, _, _, _, _, _, _, _, _, _, _, _, _, _, _, _, _, _, _, rfl, rfl, hk0, hg, hG, f0, f5, f11, f10, f1, f2, f3, f4, f6, f7, (fun _ => rfl), f9, f12, HH.out.1, HH.out.2.1, HH.out.2.2⟩
        | 9, ho, hli, hd =>
          obtain rfl := Option.some.inj ho
          obtain rfl : b9 = false := hli
          obtain rfl : b8 = true := hd ⟨8, .data⟩ (by simp) rfl
          obtain rfl := f8 rfl
          have HH := Lib.hid (And.intro c5 (And.intro c11 c13))
          clear c5 c11 c13
          go_simp
          exact hK _ _ ⟨_, _, _, _, _, _, _, _, _, _, _, _, _, _, _, _, _, _, _, _, _, _, _, _, _, _, _, rfl, rfl, hk0, hg, hG, f0, f5, f11, f10, f1, f2, f3, f4, f6, f7, f8, (fun _ => rfl), f12, HH.out.1, HH.out.2.1, HH.out.2.2⟩
        | 10, ho, hli, hd =>
          obtain rfl := Option.some.inj ho
          obtain rfl : b10 = false := hli
          obtain rfl : b7 = true := hd ⟨7, .data⟩ (by simp) rfl
          obtain rfl : b9 = true := hd ⟨9, .data⟩ (by simp) rfl
          obtain rfl := f7 rfl
          obtain rfl := f9 rfl
          have HH := Lib.hid (And.intro c5 (And.intro c11 c13))
          clear c5 c11 c13
          rcases HCUT.out with ⟨hkc, hkd, hd0⟩ | ⟨hkc, hkd, hd0⟩
          · go_simp
            exact hK _ _ ⟨_, _, _, _, _, _, _, _, _, _, _, _, _, _, _, _, _, _, _, _, _, _, _, _, _, _, _, rfl, rfl, hk0, hg, hG, f0, f5, f11, (fun _ => ⟨_, _, _, rfl, hd0⟩), f1, f2, f3, f4, f6, f7, f8, (fun _ => by first | rfl | rw [hkc]), f12, HH.out.1, HH.out.2.1, HH.out.2.2⟩
          · go_simp
            exact hK _ _ ⟨_, _, _, _, _, _, _, _, _, _, _, _, _, _, _, _, _, _, _, _, _, _, _, _, _, _, _, rfl, rfl, hk0, hg, hG, f0, f5, f11, (fun _ => ⟨_, _, _, rfl, hd0⟩), f1, f2, f3, f4, f6, f7, f8, (fun _ => by first | rfl | rw [hkc]), f12, HH.out.1, HH.out.2.1, HH.out.2.2⟩
        | 11, ho, hli, hd =>
          obtain rfl := Option.some.inj ho
          obtain rfl : b11 = false := hli
          obtain rfl : b5 = true := hd ⟨5, .data⟩ (by simp) rfl
          obtain rfl : b10 = true := hd ⟨10, .data⟩ (by simp) rfl
          obtain ⟨dA, dl, dc, rfl, hds⟩ := f10 rfl
          have hdl := hds.len
          have hdx : (p.rules.drop (k + 1)).length ≤ 16 := by rw [List.length_drop]; have := HRL.out; omega
          have htx : (p.rules.take k).length ≤ 16 := by rw [List.length_take]; have := HRL.out; omega
          have e13 : b13 = false := by
            cases hh : b13 with
            | false => rfl
            | true => have := (c13 hh).1; cases this
          subst e13
          refine step_appB (by rfl) _ _ (by rfl) ety_rule (by rfl) (by rfl) (f5 rfl rfl) (hds) (by simp; omega) (fun v' w9 q1 q2 q3 => ?_)
          have hk9 : Kept [g6] w2 w9 := hk0.grown q2 (fun q hq => .inr ((f5 rfl rfl).lt hq).1)
          have hg9 : Blk w9 g6 27 #[.int .i64 (N : Int), .slice nA nl nc, .slice sA sl sc, .slice (some ⟨rb, ro, none⟩) rl rc, .slice mA ml mc] := (hg rfl).grown q2 (fun e => by have := ((f5 rfl rfl).lt e.symm).1; omega)
          exact hK _ _ ⟨_, _, _, _, _, _, _, _, _, _, _, _, _, _, _, _, _, _, _, _, _, _, _, _, _, _, _, rfl, rfl, hk9, (fun _ => hg9), (fun e => by cases e), (fun _ e => by cases e), (fun _ e => by cases e), (fun _ => q1), f10, f1, f2, f3, f4, f6, f7, f8, f9, f12, c5, (fun _ => rfl), (fun e => by cases e)⟩
        | 12, ho, hli, hd =>
          obtain rfl := Option.some.inj ho
          obtain rfl : b12 = false := hli
          have HH := Lib.hid (And.intro c5 (And.intro c11 c13))
          clear c5 c11 c13
          go_simp
          exact hK _ _ ⟨_, _, _, _, _, _, _, _, _, _, _, _, _, _, _, _, _, _, _, _, _, _, _, _, _, _, _, rfl, rfl, hk0, hg, hG, f0, f5, f11, f10, f1, f2, f3, f4, f6, f7, f8, f9, (fun _ => rfl), HH.out.1, HH.out.2.1, (fun e => ⟨(HH.out.2.2 e).1, rfl⟩)⟩
        | 13, ho, hli, hd =>
          obtain rfl := Option.some.inj ho
          obtain rfl : b13 = false := hli
          obtain rfl : b11 = true := hd ⟨11, .data⟩ (by simp) rfl
          obtain rfl : b12 = true := hd ⟨12, .data⟩ (by simp) rfl
          obtain rfl := f12 rfl
          obtain rfl : b5 = true := c11 rfl
          obtain rfl : b0 = true := c5 rfl
          have hz := (hg rfl).frozen 3
          have hm3 : w'.cell? ⟨g6, 3, none⟩ = some (.slice (some ⟨rb, ro, none⟩) rl rc) := (hg rfl).cell 3
          have ho := f11 rfl
          obtain ⟨oA, oc, eo, -⟩ := ho.sl (by have := HRL.out; simp; omega)
          obtain ⟨ol, hol⟩ : ∃ ol, ol = (p.rules.take k ++ p.rules.drop (k + 1)).length := ⟨_, rfl⟩
          rw [← hol] at eo
          clear hol
          subst eo
          have ho2 := ho.kept ((Kept.refl [g6] w').set (p := ⟨g6, 3, none⟩) (.inl (by simp)) (.slice oA ol oc)) (fun q hq => by
            have e : q = g6 := by simpa using hq
            subst e
            exact ⟨by omega, fun e => by have := (ho.lt e).1; omega⟩)
          clear ho
          have HH := Lib.hid (And.intro c5 (And.intro c11 c13))
          clear c5 c11 c13
          go_simp
          exact hK _ _ ⟨_, _, _, _, _, _, _, _, _, _, _, _, _, _, _, _, _, _, _, _, _, _, _, _, _, _, _, rfl, rfl, (hk0.set (p := ⟨g6, 3, none⟩) (.inl (by simp)) _), (fun e => by cases e), (fun _ => (hg rfl).set_ 3 _), (fun _ e => by cases e), (fun _ e => by cases e), (fun _ => ho2), f10, f1, f2, f3, f4, f6, f7, f8, f9, f12, HH.out.1, HH.out.2.1, (fun _ => ⟨rfl, rfl⟩)⟩
        | i + 14, ho, hli, hd => simp at ho
      rintro listed a' w' ⟨b0, b1, b2, b3, b4, b5, b6, b7, b8, b9, b10, b11, b12, b13, u49, u50, u51, u52, u53, u54, u55, u56, u57, u58, u59, u60, u61, rfl, rfl, hk0, hg, hG, f0, f5, f11, f10, f1, f2, f3, f4, f6, f7, f8, f9, f12, c5, c11, c13⟩ hr
      obtain rfl : b0 = true := ready_nil hr (i := 0) rfl (by first | (simp; done) | (simp; intro q; exact absurd q (by decide)))
      obtain rfl : b1 = true := ready_nil hr (i := 1) rfl (by first | (simp; done) | (simp; intro q; exact absurd q (by decide)))
      obtain rfl : b2 = true := ready_nil hr (i := 2) rfl (by first | (simp; done) | (simp; intro q; exact absurd q (by decide)))
      obtain rfl : b3 = true := ready_nil hr (i := 3) rfl (by first | (simp; done) | (simp; intro q; exact absurd q (by decide)))
      obtain rfl : b4 = true := ready_nil hr (i := 4) rfl (by first | (simp; done) | (simp; intro q; exact absurd q (by decide)))
      obtain rfl : b5 = true := ready_nil hr (i := 5) rfl (by first | (simp; done) | (simp; intro q; exact absurd q (by decide)))
      obtain rfl : b6 = true := ready_nil hr (i := 6) rfl (by first | (simp; done) | (simp; intro q; exact absurd q (by decide)))
      obtain rfl : b7 = true := ready_nil hr (i := 7) rfl (by first | (simp; done) | (simp; intro q; exact absurd q (by decide)))
      obtain rfl : b8 = true := ready_nil hr (i := 8) rfl (by first | (simp; done) | (simp; intro q; exact absurd q (by decide)))
      obtain rfl : b9 = true := ready_nil hr (i := 9) rfl (by first | (simp; done) | (simp; intro q; exact absurd q (by decide)))
      obtain rfl : b10 = true := ready_nil hr (i := 10) rfl (by first | (simp; done) | (simp; intro q; exact absurd q (by decide)))
      obtain rfl : b11 = true := ready_nil hr (i := 11) rfl (by first | (simp; done) | (simp; intro q; exact absurd q (by decide)))
      obtain rfl : b12 = true := ready_nil hr (i := 12) rfl (by first | (simp; done) | (simp; intro q; exact absurd q (by decide)))
      obtain rfl : b13 = true := ready_nil hr (i := 13) rfl (by first | (simp; done) | (simp; intro q; exact absurd q (by decide)))
      clear hr
      have hG2 := hG rfl
      have ho := f11 rfl
      obtain ⟨oA, oc, eo, -⟩ := ho.sl (by have := HRL.out; simp; omega)
      obtain ⟨ol, hol⟩ : ∃ ol, ol = (p.rules.take k ++ p.rules.drop (k + 1)).length := ⟨_, rfl⟩
      rw [← hol] at eo
      subst eo
      have hg7' : Blk w' g7 27 #[.int .i64 (N : Int), .slice nA nl nc, .slice sA sl sc, .slice (some ⟨rb, ro, none⟩) rl rc, .slice mA ml mc] := hk0.blk HG7.out (by simp; exact Ne.symm hgne)
      have hx3 := hk0.blk HX2.out (by simp; omega)
      have hbw3 := ho.below
      obtain ⟨w3, rfl⟩ : ∃ w3 : World, w3 = w' := ⟨_, rfl⟩
      have hg6l3 : g6 < w3.heap.size := hG2.lt
      have hg7l3 : g7 < w3.heap.size := hg7'.lt
      have hw23 := hk0.size
      have hz7 := hg7'.frozen 3
      have hm7 := hg7'.cell 3
      have hbn := hg7'.set_ 3 (.slice none 0 0)
      have hkn : Kept [g7] w3 (w3.setCell ⟨g7, 3, none⟩ (.slice none 0 0)) := (Kept.refl _ _).set (.inl (by simp)) _
      have hgn6 := hG2.far (p := ⟨g7, 3, none⟩) hgne (.slice none 0 0)
      have hxn := hx3.far (p := ⟨g7, 3, none⟩) (show w.heap.size ≠ g7 by omega) (.slice none 0 0)
      clear f0 f1 f2 f3 f4 f5 f6 f7 f8 f9 f10 f11 f12 hg hG c5 c11 c13 hk0 hol
      clear HG6 HG7 HTK HCUT hk1 hk2 hk3 hk4 hw9
      have HG2 := Lib.hid hG2; clear hG2
      have HG7' := Lib.hid hg7'; clear hg7'
      have HX3 := Lib.hid hx3; clear hx3
      have HBW3 := Lib.hid hbw3; clear hbw3
      have HBN := Lib.hid hbn; clear hbn
      have HKN := Lib.hid hkn; clear hkn
      have HGN6 := Lib.hid hgn6; clear hgn6
      have HXN := Lib.hid hxn; clear hxn
      have HO := Lib.hid ho; clear ho
      go_upto_region 7 with fail
      have hbw4 := Kept.below HBW3.out HKN.out HBW3.out.size (by simp; omega)
      have ho4 := HO.out.kept HKN.out (fun q hq => by
        have e : q = g7 := by simpa using hq
        subst e
        exact ⟨by omega, fun e => by have := (HO.out.lt e).1; omega⟩)
      have hsz4 : w3.heap.size = (w3.setCell ⟨g7, 3, none⟩ (.slice none 0 0)).heap.size := by simp
      generalize w3.setCell ⟨g7, 3, none⟩ (.slice none 0 0) = w4 at *
      clear HKN HO HG2 HG7' HX3
      clear hz7 hm7
      obtain ⟨p0, p1, p2, p3, p4, p5⟩ := pcells HXN.out
      have HBW4 := Lib.hid hbw4; clear hbw4
      have HO4 := Lib.hid ho4; clear ho4
      go_wp2_with fail
      clear p0 p1 p2 p3 p4 p5
      go_loopw [66] (fun t wr => ∃ (i : Nat) (v : Value), i ≤ rl ∧ t = .int .i64 (i : Int) ∧ Blk wr g7 27 #[.int .i64 (N : Int), .slice nA nl nc, .slice sA sl sc, v, .slice mA ml mc] ∧ Kept [g7] w4 wr ∧ RowO ruleR 54 [g7] w4.heap.size wr v ((p.rules.take i).map plR)) (fun t _ => rl - (intOf t).toNat)
      case atStart => exact ⟨0, _, Nat.zero_le _, rfl, HBN.out, Kept.refl _ _, RowO.nil (Nat.le_refl _)⟩
      case round =>
        obtain ⟨i, v, hi, rfl, hbg, hkp, hro⟩ := hrel
        obtain ⟨wo, rfl⟩ : ∃ wo : World, wo = wr := ⟨_, rfl⟩
        have hbwo := Kept.below HBW4.out hkp HBW4.out.size (by simp; omega)
        by_cases hlt : i < rl
        · obtain ⟨x, hx, -⟩ := HP.out.rules.drop hlt
          obtain ⟨_, _, hA, hl, hc, bA, bl, bc, wA, wl, wc, er, hrb, e0, e1, e2, e3, e4, e5, i1, i2, i3, i4⟩ := HP.out.rules.rule hx
          cases er
          have HR := Lib.hid (show RuleIn w x hA hl hc bA bl bc wA wl wc from ⟨i1, i2, i3, i4⟩)
          have d0 := (hbwo.cell (World.block_lt_of_cell? _ _ e0)).trans e0
          have d1 := (hbwo.cell (World.block_lt_of_cell? _ _ e1)).trans e1
          have d2 := (hbwo.cell (World.block_lt_of_cell? _ _ e2)).trans e2
          have d3 := (hbwo.cell (World.block_lt_of_cell? _ _ e3)).trans e3
          have d4 := (hbwo.cell (World.block_lt_of_cell? _ _ e4)).trans e4
          have d5 := (hbwo.cell (World.block_lt_of_cell? _ _ e5)).trans e5
          have hbc := i3.cap
          have hbm := i3.max
          have hbl := i3.len
          have hms := map_take_snoc plR hx
          clear e0 e1 e2 e3 e4 e5 i1 i2 i3 i4
          have k0 : (0 : Int) ≤ (i : Int) := by omega
          have k1 : (i : Int) < (rl : Int) := by omega
          have hw4o : w4.heap.size ≤ wo.heap.size := hkp.size
          have hb36 : bl ≤ 36 := by
            have h1 := HFEW.out
            unfold fewB at h1
            simp only [Bool.and_eq_true, List.all_eq_true, decide_eq_true_eq] at h1
            have := h1.2.2.1 x (List.mem_of_getElem? hx)
            omega
          obtain ⟨hxb, hxbe⟩ : ∃ hxb, hxb = wo.heap.size + 1 := ⟨_, rfl⟩
          have hb6 : Below wo.heap.size wo ((wo.alloc (.cells #[.bool x.choice, .slice hA hl hc, .bool x.sum, .int .i64 x.bound, .slice bA bl bc, .slice wA wl wc] 54)).alloc (.cells #[.bool false, .slice hA hl hc, .bool false, .int .i64 0, .slice none 0 0, .slice none 0 0] 54)) := bel_trans (bel_alloc _ _) (bel_alloc _ _)
          have hx6 : Blk ((wo.alloc (.cells #[.bool x.choice, .slice hA hl hc, .bool x.sum, .int .i64 x.bound, .slice bA bl bc, .slice wA wl wc] 54)).alloc (.cells #[.bool false, .slice hA hl hc, .bool false, .int .i64 0, .slice none 0 0, .slice none 0 0] 54)) hxb 54 #[.bool false, .slice hA hl hc, .bool false, .int .i64 0, .slice none 0 0, .slice none 0 0] := blk_new (by simp [hxbe]) _ _
          have hs6 : hxb < ((wo.alloc (.cells #[.bool x.choice, .slice hA hl hc, .bool x.sum, .int .i64 x.bound, .slice bA bl bc, .slice wA wl wc] 54)).alloc (.cells #[.bool false, .slice hA hl hc, .bool false, .int .i64 0, .slice none 0 0, .slice none 0 0] 54)).heap.size := hx6.lt
          have HBG := Lib.hid hbg; clear hbg
          have HKP := Lib.hid hkp; clear hkp
          have HRO := Lib.hid hro; clear hro
          have HX := Lib.hid hx; clear hx
          have HBWO := Lib.hid hbwo; clear hbwo
          have HMS := Lib.hid hms; clear hms
          have HB6 := Lib.hid hb6; clear hb6
          have HX6 := Lib.hid hx6; clear hx6
          have HBL := Lib.hid hbl; clear hbl
          go_wp2_with fail
          clear d0 d1 d2 d3 d4 d5
          rw [← hxbe]
          have hxw : wo.heap.size < hxb := by omega
          have HXBE := Lib.hid hxbe; clear hxbe
          generalize (wo.alloc (.cells #[.bool x.choice, .slice hA hl hc, .bool x.sum, .int .i64 x.bound, .slice bA bl bc, .slice wA wl wc] 54)).alloc (.cells #[.bool false, .slice hA hl hc, .bool false, .int .i64 0, .slice none 0 0, .slice none 0 0] 54) = w6 at *
          have hbw6 := bel_trans HBWO.out HB6.out
          have HBW6 := Lib.hid hbw6; clear hbw6
          go_loopw [76] (fun t wr2 => ∃ (j : Nat) (bv : Value), j ≤ bl ∧ t = .int .i64 (j : Int) ∧ Blk wr2 hxb 54 #[.bool false, .slice hA hl hc, .bool false, .int .i64 0, bv, .slice none 0 0] ∧ Kept [hxb] w6 wr2 ∧ OwnB intR 3 w w6.heap.size wr2 bv (psL (x.body.take j))) (fun t _ => bl - (intOf t).toNat)
          case atStart => exact ⟨0, _, Nat.zero_le _, rfl, HX6.out, Kept.refl _ _, OwnB.nil HBW6.out HBW6.out.size (Nat.le_refl _)⟩
          case round =>
            obtain ⟨j, bv, hj, rfl, hxb2, hk2, hob⟩ := hrel
            obtain ⟨wi, rfl⟩ : ∃ wi : World, wi = wr := ⟨_, rfl⟩
            by_cases hlt2 : j < bl
            · have hbd := HR.out.body.ext hob.below
              obtain ⟨y, hy, -⟩ := hbd.drop hlt2
              obtain ⟨yb, yo, ey, _, hym, hy64⟩ := hbd.int hy
              cases ey
              have j0 : (0 : Int) ≤ (j : Int) := by omega
              have j1 : (j : Int) < (bl : Int) := by omega
              by_cases hpos : 0 < y
              · have hps : psL (x.body.take (j + 1)) = psL (x.body.take j) ++ [y] := by
                  rw [take_snoc' hy]; unfold psL; rw [List.filter_append]; simp [hpos]
                have hd1 : decide (0 < y) = true := decide_eq_true hpos
                have hpl : (psL (x.body.take j)).length ≤ 36 := by
                  have h1 : (psL (x.body.take j)).length ≤ (x.body.take j).length := List.length_filter_le _ _
                  have h2 := List.length_take_le j x.body
                  omega
                obtain ⟨v', w9, hrun, ho9, hg9, hat9⟩ := hob.app1 ety_int [.int .i64 y] y ⟨rfl, hy64⟩ (by omega) 23
                rw [← hps] at ho9
                have n1 : some hxb ≠ bv.ownBlock := fun e => by have := (hob.lt e.symm).1; omega
                have m4 : wi.cell? ⟨hxb, 4, none⟩ = some bv := hxb2.cell 4
                have kb9 := hxb2.grown hg9 n1
                have q4 : w9.cell? ⟨hxb, 4, none⟩ = some bv := kb9.cell 4
                have z4 : w9.frozen? ⟨hxb, 4, none⟩ = false := kb9.frozen 4
                have hb9 : Blk (w9.setCell ⟨hxb, 4, none⟩ v') hxb 54 #[.bool false, .slice hA hl hc, .bool false, .int .i64 0, v', .slice none 0 0] := kb9.set_ 4 v'
                have ho10 := ho9.set (p := ⟨hxb, 4, none⟩) (show w.heap.size ≤ hxb by have := HBWO.out.size; omega) hs6 v'
                have hk9 : Kept [hxb] w6 (w9.setCell ⟨hxb, 4, none⟩ v') := (hk2.grown hg9 (fun q hq => .inr (hob.lt hq).1)).set (.inl (by simp)) _
                obtain ⟨oA2, oc2, ev, -⟩ := ho9.sl (by
                  have h1 : (psL (x.body.take (j + 1))).length ≤ (x.body.take (j + 1)).length := List.length_filter_le _ _
                  have h2 := List.length_take_le (j + 1) x.body
                  omega)
                subst ev
                generalize (psL (x.body.take (j + 1))).length = n9 at *
                clear hpl
                have HBD := Lib.hid hbd; clear hbd
                have HY := Lib.hid hy; clear hy
                have HOB := Lib.hid hob; clear hob
                have HXB2 := Lib.hid hxb2; clear hxb2
                have HK2 := Lib.hid hk2; clear hk2
                have HPS := Lib.hid hps; clear hps
                have HRUN := Lib.hid hrun; clear hrun
                have HO9 := Lib.hid ho9; clear ho9
                have HG9 := Lib.hid hg9; clear hg9
                have HAT9 := Lib.hid hat9; clear hat9
                have KB9 := Lib.hid kb9; clear kb9
                have HB9 := Lib.hid hb9; clear hb9
                have HO10 := Lib.hid ho10; clear ho10
                have HK9 := Lib.hid hk9; clear hk9
                go_wp2_with (at_builtin; refine wpList_append_run rfl _ _ _ rfl _ _ rfl rfl _ _ HRUN.out ?_)
                go_roundw
                case rel => exact ⟨j + 1, _, by omega, by go_num, HB9.out, HK9.out, HO10.out⟩
                case measure => simp [intOf]; omega
              · have hps : psL (x.body.take (j + 1)) = psL (x.body.take j) := by
                  rw [take_snoc' hy]; unfold psL; rw [List.filter_append]; simp [hpos]
                have hd1 : decide (0 < y) = false := decide_eq_false hpos
                rw [← hps] at hob
                have HBD := Lib.hid hbd; clear hbd
                have HY := Lib.hid hy; clear hy
                have HOB := Lib.hid hob; clear hob
                have HXB2 := Lib.hid hxb2; clear hxb2
                have HK2 := Lib.hid hk2; clear hk2
                have HPS := Lib.hid hps; clear hps
                go_wp2_with fail
                go_roundw
                case rel => exact ⟨j + 1, _, by omega, by go_num, HXB2.out, HK2.out, HOB.out⟩
                case measure => simp [intOf]; omega
            · have hje : bl = j := by omega
              subst hje
              rw [List.take_of_length_le (by have := HBL.out; omega)] at hob
              have hkw : Kept [hxb] wo wi := (Kept.of_below HB6.out [hxb]).trans hk2
              have hvl := fun q (hq : v.ownBlock = some q) => HRO.out.lt hq
              have hro2 := HRO.out.step hkw (fun q hq => by
                have e : q = hxb := by simpa using hq
                subst e
                exact ⟨.inr (by omega), fun e => by have := (hvl _ e).2; omega⟩)
              have hbg2 := hkw.blk HBG.out (by simp; have := HBG.out.lt; omega)
              have hk4 : Kept [g7] w4 wi := HKP.out.thn hkw (fun q hq => by
                have e : q = hxb := by simpa using hq
                subst e
                exact .inr (by have := HKP.out.size; omega))
              obtain ⟨bA2, bc2, eb, hbs2⟩ := hob.sl (by
                  have h1 : (psL x.body).length ≤ x.body.length := List.length_filter_le _ _
                  have := HBL.out
                  omega)
              obtain ⟨bl2, hbl2⟩ : ∃ bl2, bl2 = (psL x.body).length := ⟨_, rfl⟩
              rw [← hbl2] at eb hbs2
              subst eb
              have hoff : Off ([g7] ++ ownL v) bA2 bl2 := fun h0 ad e hm => by
                have h1 : (Value.slice bA2 bl2 bc2).ownBlock = some ad.block := by rw [e]; rfl
                have h2 := (hob.lt h1).1
                rcases List.mem_append.1 hm with h3 | h3
                · simp at h3; omega
                · have := (hvl _ (ownL_mem.1 h3)).2; have := HB6.out.size; omega
              have hT : ∀ q ∈ [g7] ++ ownL v, w.heap.size ≤ q := fun q hq => by
                rcases List.mem_append.1 hq with h3 | h3
                · simp at h3; omega
                · have := (hvl _ (ownL_mem.1 h3)).1; have := HBW4.out.size; omega
              have hst : Stab ruleR ([g7] ++ ownL v) wi [.bool false, .slice hA hl hc, .bool false, .int .i64 0, .slice bA2 bl2 bc2, .slice none 0 0] (plR x) :=
                Stab.rule (r := plR x) (StabS.ints (HR.out.head.ext hob.below) (off_before HR.out.head hT)) (by simp [I64, plR]) (StabS.ints hbs2 hoff) (StabS.nil _ _ _)
              have hpl : ((p.rules.take i).map plR).length ≤ 16 := by rw [List.length_map]; have := List.length_take_le i p.rules; have := HRL.out; omega
              obtain ⟨v', w9, hrun, ho9, hg9, hat9⟩ := hro2.app1 ety_rule _ (plR x) hst (by omega) 24
              rw [← HMS.out] at ho9
              have n1 : some g7 ≠ v.ownBlock := fun e => by have := (hvl _ e.symm).1; omega
              have m3 : wi.cell? ⟨g7, 3, none⟩ = some v := hbg2.cell 3
              have x0 : wi.cell? ⟨hxb, 0, none⟩ = some (.bool false) := hxb2.cell 0
              have x1 : wi.cell? ⟨hxb, 1, none⟩ = some (.slice hA hl hc) := hxb2.cell 1
              have x2 : wi.cell? ⟨hxb, 2, none⟩ = some (.bool false) := hxb2.cell 2
              have x3 : wi.cell? ⟨hxb, 3, none⟩ = some (.int .i64 0) := hxb2.cell 3
              have x4 : wi.cell? ⟨hxb, 4, none⟩ = some (.slice bA2 bl2 bc2) := hxb2.cell 4
              have x5 : wi.cell? ⟨hxb, 5, none⟩ = some (.slice none 0 0) := hxb2.cell 5
              have kb9 := hbg2.grown hg9 n1
              have q3 : w9.cell? ⟨g7, 3, none⟩ = some v := kb9.cell 3
              have z3 : w9.frozen? ⟨g7, 3, none⟩ = false := kb9.frozen 3
              have hb9 : Blk (w9.setCell ⟨g7, 3, none⟩ v') g7 27 #[.int .i64 (N : Int), .slice nA nl nc, .slice sA sl sc, v', .slice mA ml mc] := kb9.set_ 3 v'
              have ho10 : RowO ruleR 54 [g7] w4.heap.size (w9.setCell ⟨g7, 3, none⟩ v') v' ((p.rules.take (i + 1)).map plR) := ho9.step ((Kept.refl [g7] w9).set (p := ⟨g7, 3, none⟩) (.inl (by simp)) v') (fun q hq => by
                have e : q = g7 := by simpa using hq
                subst e
                exact ⟨.inl (by simp), fun e => by have := (ho9.lt e).1; omega⟩)
              have hk9 : Kept [g7] w4 (w9.setCell ⟨g7, 3, none⟩ v') := (hk4.grown hg9 (fun q hq => .inr (hvl _ hq).1)).set (.inl (by simp)) _
              obtain ⟨oA2, oc2, ev, -⟩ := ho9.sl (by rw [List.length_map]; have := List.length_take_le (i + 1) p.rules; have := HRL.out; omega)
              subst ev
              generalize ((p.rules.take (i + 1)).map plR).length = n9 at *
              clear hpl hbl2 hvl hT
              have HOB := Lib.hid hob; clear hob
              have HXB2 := Lib.hid hxb2; clear hxb2
              have HK2 := Lib.hid hk2; clear hk2
              have HKW := Lib.hid hkw; clear hkw
              have HRO2 := Lib.hid hro2; clear hro2
              have HBG2 := Lib.hid hbg2; clear hbg2
              have HK4 := Lib.hid hk4; clear hk4
              have HBS2 := Lib.hid hbs2; clear hbs2
              have HOFF := Lib.hid hoff; clear hoff
              have HST := Lib.hid hst; clear hst
              have HRUN := Lib.hid hrun; clear hrun
              have HO9 := Lib.hid ho9; clear ho9
              have HG9 := Lib.hid hg9; clear hg9
              have HAT9 := Lib.hid hat9; clear hat9
              have KB9 := Lib.hid kb9; clear kb9
              have HB9 := Lib.hid hb9; clear hb9
              have HO10 := Lib.hid ho10; clear ho10
              have HK9 := Lib.hid hk9; clear hk9
              go_wp2_with (at_builtin; refine wpList_append_run rfl _ _ _ rfl _ _ rfl rfl _ _ HRUN.out ?_)
              go_roundw
              case rel => exact ⟨i + 1, _, by omega, by go_num, HB9.out, HK9.out, HO10.out⟩
              case measure => simp [intOf]; omega
        · have hie : rl = i := by omega
          subst hie
          rw [List.take_of_length_le (by have := HRLEN.out; omega)] at hro
          have hxo := hkp.blk HXN.out (by simp; omega)
          have hg6o := hkp.blk HGN6.out (by simp; exact hgne)
          have hlo := HO4.out.kept hkp (fun q hq => by
            have e : q = g7 := by simpa using hq
            subst e
            exact ⟨by omega, fun e => by have := (HO4.out.lt e).1; omega⟩)
          obtain ⟨lA, lc, e1, hls⟩ := hlo.sl (by have := HRL.out; simp; omega)
          injection e1 with e1 e2 e3
          subst e1 e2 e3
          obtain ⟨qA, qc, e1, hqs⟩ := hro.sl (by rw [List.length_map]; have := HRL.out; omega)
          subst e1
          have hp9 := HP.out.ext hbwo
          have hlp : ProgIn wo (lessP p k) nA nl nc sA sl sc oA (p.rules.take k ++ p.rules.drop (k + 1)).length oc mA ml mc := ⟨HP.out.n, hp9.names, hp9.shown, hls, hp9.min⟩
          have hpp : ProgIn wo (plP p) nA nl nc sA sl sc qA (p.rules.map plR).length qc mA ml mc := ⟨HP.out.n, hp9.names, hp9.shown, hqs, hp9.min⟩
          have hlv : validE (lessP p k) = 0 := ex_validE (lessP_is HPI.out k)
          have hpv : validE (plP p) = 0 := ex_validE (plP_is HPI.out)
          generalize (p.rules.take k ++ p.rules.drop (k + 1)).length = ol at *
          generalize (p.rules.map plR).length = ql at *
          have en : p.n = (N : Int) := hNn
          have en1 : (lessP p k).n = (N : Int) := hNn
          have en2 : (plP p).n = (N : Int) := hNn
          have cN1 := fun W (hb : Below wo.heap.size wo W) => number_any p nA nl nc sA sl sc (some ⟨rb, ro, none⟩) rl rc mA ml mc W (hp9.ext hb) HV.out
          have cN2 := fun W (hb : Below wo.heap.size wo W) => number_any (lessP p k) nA nl nc sA sl sc oA ol oc mA ml mc W (hlp.ext hb) hlv
          have cT1 := fun W (hb : Below wo.heap.size wo W) => tight_any p nA nl nc sA sl sc (some ⟨rb, ro, none⟩) rl rc mA ml mc W (hp9.ext hb) HV.out
          have cT2 := fun W (hb : Below wo.heap.size wo W) => tight_any (lessP p k) nA nl nc sA sl sc oA ol oc mA ml mc W (hlp.ext hb) hlv
          have cF1 := fun W (hb : Below wo.heap.size wo W) => free_any p nA nl nc sA sl sc (some ⟨rb, ro, none⟩) rl rc mA ml mc W (hp9.ext hb) HV.out
          have cF2 := fun W (hb : Below wo.heap.size wo W) => free_any (lessP p k) nA nl nc sA sl sc oA ol oc mA ml mc W (hlp.ext hb) hlv
          have cE1 := fun W (hb : Below wo.heap.size wo W) => edges_any p nA nl nc sA sl sc (some ⟨rb, ro, none⟩) rl rc mA ml mc W (hp9.ext hb) HV.out
          have cE2 := fun W (hb : Below wo.heap.size wo W) => edges_any (plP p) nA nl nc sA sl sc qA ql qc mA ml mc W (hpp.ext hb) hpv
          rw [en] at cN1 cT1 cF1 cE1
          rw [en1] at cN2 cT2 cF2
          rw [en2, pl_edges] at cE2
          have hltt := less_tight HPI.out k
          have hlff := less_free HPI.out k
          have hln1 := (parts_law HPI.out).len
          have hln2 := (parts_law (lessP_is HPI.out k)).len
          have hnum := fun (a b : Int) => less_nums (a := a) (b := b) HPI.out k
          generalize tightB p = t1 at *
          generalize tightB (lessP p k) = t2 at *
          generalize freeB p = f1 at *
          generalize freeB (lessP p k) = f2 at *
          clear en en1 en2
          have HB := Lib.hid (Below.refl wo.heap.size wo)
          have HXO := Lib.hid hxo; clear hxo
          have HG6O := Lib.hid hg6o; clear hg6o
          have HLO := Lib.hid hlo; clear hlo
          have HLS := Lib.hid hls; clear hls
          have HQS := Lib.hid hqs; clear hqs
          have HP9 := Lib.hid hp9; clear hp9
          have HLP := Lib.hid hlp; clear hlp
          have HPP := Lib.hid hpp; clear hpp
          have HLV := Lib.hid hlv; clear hlv
          have HPV := Lib.hid hpv; clear hpv
          have CN1 := Lib.hid cN1; clear cN1
          have CN2 := Lib.hid cN2; clear cN2
          have CT1 := Lib.hid cT1; clear cT1
          have CT2 := Lib.hid cT2; clear cT2
          have CF1 := Lib.hid cF1; clear cF1
          have CF2 := Lib.hid cF2; clear cF2
          have CE1 := Lib.hid cE1; clear cE1
          have CE2 := Lib.hid cE2; clear cE2
          have HLTT := Lib.hid hltt; clear hltt
          have HLFF := Lib.hid hlff; clear hlff
          have HLN1 := Lib.hid hln1; clear hln1
          have HLN2 := Lib.hid hln2; clear hln2
          have HNUM := Lib.hid hnum; clear hnum
          have HRO := Lib.hid hro; clear hro
          have HBG := Lib.hid hbg; clear hbg
          have HKP := Lib.hid hkp; clear hkp
          have HBWO := Lib.hid hbwo; clear hbwo
          clear HO4 HBW4 HGN6 HXN HBN
          obtain ⟨p0, p1, p2, p3, p4, p5⟩ := pcells HXO.out
          obtain ⟨q0, q1, q2, q3, q4, q5⟩ := pcells HG6O.out
          obtain ⟨r0, r1, r2, r3, r4, r5⟩ := pcells HBG.out
          go_wp2_with fail
          go_fit (CN1.out _ HB.out); rintro e wb ⟨uA, ul, uc, rfl, hU, -, hb⟩
          have HU := Lib.hid hU
          clear hU
          have HB' := Lib.hid (bel_trans HB.out hb)
          clear HB hb
          have HB := HB'
          clear HB'
          clear p0 p1 p2 p3 p4 p5
          clear q0 q1 q2 q3 q4 q5
          clear r0 r1 r2 r3 r4 r5
          have hcx := HXO.out.bel HB.out
          obtain ⟨p0, p1, p2, p3, p4, p5⟩ := pcells hcx
          clear hcx
          have hcx := HG6O.out.bel HB.out
          obtain ⟨q0, q1, q2, q3, q4, q5⟩ := pcells hcx
          clear hcx
          have hcx := HBG.out.bel HB.out
          obtain ⟨r0, r1, r2, r3, r4, r5⟩ := pcells hcx
          clear hcx
          go_wp2_with fail
          go_fit (CN2.out _ HB.out); rintro e wc ⟨vA, vl, vc, rfl, hV, -, hb⟩
          have HU2 := Lib.hid (HU.out.ext hb)
          have HV2 := Lib.hid hV
          clear hV HU
          have HB' := Lib.hid (bel_trans HB.out hb)
          clear HB hb
          have HB := HB'
          clear HB'
          clear p0 p1 p2 p3 p4 p5
          clear q0 q1 q2 q3 q4 q5
          clear r0 r1 r2 r3 r4 r5
          have hcx := HXO.out.bel HB.out
          obtain ⟨p0, p1, p2, p3, p4, p5⟩ := pcells hcx
          clear hcx
          have hcx := HG6O.out.bel HB.out
          obtain ⟨q0, q1, q2, q3, q4, q5⟩ := pcells hcx
          clear hcx
          have hcx := HBG.out.bel HB.out
          obtain ⟨r0, r1, r2, r3, r4, r5⟩ := pcells hcx
          clear hcx
          have hul : N = ul := by have h1 := HU2.out.len; have := HLN1.out; omega
          subst hul
          have hvl : N = vl := by have h1 := HV2.out.len; have := HLN2.out; have e : (lessP p k).n = p.n := rfl; omega
          subst hvl
          have huc := HU2.out.cap
          have hum := HU2.out.max
          have hvc := HV2.out.cap
          have hvm := HV2.out.max
          go_wp2_with fail
          go_loopw [128] (fun t wr => ∃ i : Nat, i ≤ N ∧ t = .int .i64 (i : Int) ∧ Below wc.heap.size wc wr) (fun t _ => N - (intOf t).toNat)
          case atStart => exact ⟨0, Nat.zero_le _, rfl, Below.refl _ _⟩
          case round =>
            obtain ⟨i, hi2, rfl, hB1⟩ := hrel
            obtain ⟨wd, rfl⟩ : ∃ wd : World, wd = wr := ⟨_, rfl⟩
            by_cases hlt2 : i < N
            · have a0 : (0 : Int) ≤ (i : Int) := by omega
              have a1 : (i : Int) < (N : Int) := by omega
              have HB1 := Lib.hid hB1; clear hB1
              go_wp2_with fail
              go_loopw [133] (fun t wr => ∃ j : Nat, j ≤ N ∧ t = .int .i64 (j : Int) ∧ Below wc.heap.size wc wr) (fun t _ => N - (intOf t).toNat)
              case atStart => exact ⟨0, Nat.zero_le _, rfl, HB1.out⟩
              case round =>
                obtain ⟨j, hj2, rfl, hB2⟩ := hrel
                obtain ⟨we, rfl⟩ : ∃ we : World, we = wr := ⟨_, rfl⟩
                by_cases hlt3 : j < N
                · have b0 : (0 : Int) ≤ (j : Int) := by omega
                  have b1 : (j : Int) < (N : Int) := by omega
                  have hU3 := HU2.out.ext hB2
                  have hV3 := HV2.out.ext hB2
                  obtain ⟨u1, hu1, -⟩ := hU3.drop hlt2
                  obtain ⟨u2, hu2, -⟩ := hU3.drop hlt3
                  obtain ⟨v1, hv1, -⟩ := hV3.drop hlt2
                  obtain ⟨v2, hv2, -⟩ := hV3.drop hlt3
                  obtain ⟨_, _, e1, _, m1, -⟩ := hU3.int hu1
                  cases e1
                  obtain ⟨_, _, e1, _, m2, -⟩ := hU3.int hu2
                  cases e1
                  obtain ⟨_, _, e1, _, m3, -⟩ := hV3.int hv1
                  cases e1
                  obtain ⟨_, _, e1, _, m4, -⟩ := hV3.int hv2
                  cases e1
                  have hz : ∀ (l : List Int) (q : Nat) (y : Int), l[q]? = some y → nthZ l ((q : Int) + 1 - 1) = y := fun l q y h => by
                    unfold nthZ
                    rw [show ((q : Int) + 1 - 1).toNat = q by omega, List.getD_eq_getElem?_getD, h]; rfl
                  have hnn := HNUM.out ((i : Int) + 1) ((j : Int) + 1) (by omega) (by omega) (by omega) (by omega)
                  rw [hz _ _ _ hu1, hz _ _ _ hu2, hz _ _ _ hv1, hz _ _ _ hv2] at hnn
                  clear hz
                  by_cases he : v1 = v2
                  · have he2 : u1 = u2 := hnn he
                    subst he he2
                    clear hnn
                    have HU3 := Lib.hid hU3; clear hU3
                    have HV3 := Lib.hid hV3; clear hV3
                    have HU1 := Lib.hid hu1; clear hu1
                    have HU2 := Lib.hid hu2; clear hu2
                    have HV1 := Lib.hid hv1; clear hv1
                    have HV2 := Lib.hid hv2; clear hv2
                    have HB2 := Lib.hid hB2; clear hB2
                    go_wp2_with fail
                    go_quiet (fail)
                    go_wp2_with fail
                    go_roundw
                    case rel => exact ⟨j + 1, by omega, by go_num, below_drewN HB2.out _⟩
                    case measure => simp [intOf]; omega
                  · have he3 : (v1 == v2) = false := by simpa using he
                    clear hnn
                    have HU3 := Lib.hid hU3; clear hU3
                    have HV3 := Lib.hid hV3; clear hV3
                    have HU1 := Lib.hid hu1; clear hu1
                    have HU2 := Lib.hid hu2; clear hu2
                    have HV1 := Lib.hid hv1; clear hv1
                    have HV2 := Lib.hid hv2; clear hv2
                    have HB2 := Lib.hid hB2; clear hB2
                    go_wp2_with fail
                    go_quiet (fail)
                    go_wp2_with fail
                    go_roundw
                    case rel => exact ⟨j + 1, by omega, by go_num, below_drewN HB2.out _⟩
                    case measure => simp [intOf]; omega
                · have hje : N = j := by omega
                  subst hje
                  have b1 : ¬ (N : Int) < (N : Int) := by omega
                  have HB2 := Lib.hid hB2; clear hB2
                  go_wp2_with fail
                  go_roundw
                  case rel => exact ⟨i + 1, by omega, by go_num, HB2.out⟩
                  case measure => simp [intOf]; omega
            · have hie : N = i := by omega
              subst hie
              have a1 : ¬ (N : Int) < (N : Int) := by omega
              have hb := hB1
              clear hB1
              have HB' := Lib.hid (bel_trans HB.out hb)
              clear HB hb
              have HB := HB'
              clear HB'
              clear p0 p1 p2 p3 p4 p5
              clear q0 q1 q2 q3 q4 q5
              clear r0 r1 r2 r3 r4 r5
              have hcx := HXO.out.bel HB.out
              obtain ⟨p0, p1, p2, p3, p4, p5⟩ := pcells hcx
              clear hcx
              have hcx := HG6O.out.bel HB.out
              obtain ⟨q0, q1, q2, q3, q4, q5⟩ := pcells hcx
              clear hcx
              have hcx := HBG.out.bel HB.out
              obtain ⟨r0, r1, r2, r3, r4, r5⟩ := pcells hcx
              clear hcx
              go_wp2_with fail
              clear a1
              go_fit (CT1.out _ HB.out); rintro e wf ⟨rfl, hb⟩
              have HB' := Lib.hid (bel_trans HB.out hb)
              clear HB hb
              have HB := HB'
              clear HB'
              clear p0 p1 p2 p3 p4 p5
              clear q0 q1 q2 q3 q4 q5
              clear r0 r1 r2 r3 r4 r5
              have hcx := HXO.out.bel HB.out
              obtain ⟨p0, p1, p2, p3, p4, p5⟩ := pcells hcx
              clear hcx
              have hcx := HG6O.out.bel HB.out
              obtain ⟨q0, q1, q2, q3, q4, q5⟩ := pcells hcx
              clear hcx
              have hcx := HBG.out.bel HB.out
              obtain ⟨r0, r1, r2, r3, r4, r5⟩ := pcells hcx
              clear hcx
              go_wp2_with fail
              go_fit (CT2.out _ HB.out); rintro e wg ⟨rfl, hb⟩
              have HB' := Lib.hid (bel_trans HB.out hb)
              clear HB hb
              have HB := HB'
              clear HB'
              clear p0 p1 p2 p3 p4 p5
              clear q0 q1 q2 q3 q4 q5
              clear r0 r1 r2 r3 r4 r5
              have hcx := HXO.out.bel HB.out
              obtain ⟨p0, p1, p2, p3, p4, p5⟩ := pcells hcx
              clear hcx
              have hcx := HG6O.out.bel HB.out
              obtain ⟨q0, q1, q2, q3, q4, q5⟩ := pcells hcx
              clear hcx
              have hcx := HBG.out.bel HB.out
              obtain ⟨r0, r1, r2, r3, r4, r5⟩ := pcells hcx
              clear hcx
              go_wp2_with fail
              go_fit (CF1.out _ HB.out); rintro e wh ⟨rfl, hb⟩
              have HB' := Lib.hid (bel_trans HB.out hb)
              clear HB hb
              have HB := HB'
              clear HB'
              clear p0 p1 p2 p3 p4 p5
              clear q0 q1 q2 q3 q4 q5
              clear r0 r1 r2 r3 r4 r5
              have hcx := HXO.out.bel HB.out
              obtain ⟨p0, p1, p2, p3, p4, p5⟩ := pcells hcx
              clear hcx
              have hcx := HG6O.out.bel HB.out
              obtain ⟨q0, q1, q2, q3, q4, q5⟩ := pcells hcx
              clear hcx
              have hcx := HBG.out.bel HB.out
              obtain ⟨r0, r1, r2, r3, r4, r5⟩ := pcells hcx
              clear hcx
              go_wp2_with fail
              go_fit (CF2.out _ HB.out); rintro e wj ⟨rfl, hb⟩
              have HB' := Lib.hid (bel_trans HB.out hb)
              clear HB hb
              have HB := HB'
              clear HB'
              clear p0 p1 p2 p3 p4 p5
              clear q0 q1 q2 q3 q4 q5
              clear r0 r1 r2 r3 r4 r5
              have hcx := HXO.out.bel HB.out
              obtain ⟨p0, p1, p2, p3, p4, p5⟩ := pcells hcx
              clear hcx
              have hcx := HG6O.out.bel HB.out
              obtain ⟨q0, q1, q2, q3, q4, q5⟩ := pcells hcx
              clear hcx
              have hcx := HBG.out.bel HB.out
              obtain ⟨r0, r1, r2, r3, r4, r5⟩ := pcells hcx
              clear hcx
              go_wp2_with fail
              go_fit (CE1.out _ HB.out); rintro e wk ⟨xA, xl, xc, rfl, hE1, -, hb⟩
              have HE1 := Lib.hid hE1; clear hE1
              have HB' := Lib.hid (bel_trans HB.out hb)
              clear HB hb
              have HB := HB'
              clear HB'
              clear p0 p1 p2 p3 p4 p5
              clear q0 q1 q2 q3 q4 q5
              clear r0 r1 r2 r3 r4 r5
              have hcx := HXO.out.bel HB.out
              obtain ⟨p0, p1, p2, p3, p4, p5⟩ := pcells hcx
              clear hcx
              have hcx := HG6O.out.bel HB.out
              obtain ⟨q0, q1, q2, q3, q4, q5⟩ := pcells hcx
              clear hcx
              have hcx := HBG.out.bel HB.out
              obtain ⟨r0, r1, r2, r3, r4, r5⟩ := pcells hcx
              clear hcx
              go_wp2_with fail
              go_fit (CE2.out _ HB.out); rintro e wl ⟨yA, yl, yc, rfl, hE2, -, hb⟩
              have hE3 := HE1.out.ext hb
              have HE2 := Lib.hid hE2; clear hE2
              have HE3 := Lib.hid hE3; clear hE3
              have HB' := Lib.hid (bel_trans HB.out hb)
              clear HB hb
              have HB := HB'
              clear HB'
              clear p0 p1 p2 p3 p4 p5
              clear q0 q1 q2 q3 q4 q5
              clear r0 r1 r2 r3 r4 r5
              have hcx := HXO.out.bel HB.out
              obtain ⟨p0, p1, p2, p3, p4, p5⟩ := pcells hcx
              clear hcx
              have hcx := HG6O.out.bel HB.out
              obtain ⟨q0, q1, q2, q3, q4, q5⟩ := pcells hcx
              clear hcx
              have hcx := HBG.out.bel HB.out
              obtain ⟨r0, r1, r2, r3, r4, r5⟩ := pcells hcx
              clear hcx
              have hbz := bel_trans HBWO.out HB.out
              have cEq := edges21_any xA xl xc yA yl yc (edgeL p) (edgeL p) wl HE3.out HE2.out
              rw [show decide (edgeL p = edgeL p) = true from by simp] at cEq
              have HBZ := Lib.hid hbz; clear hbz
              have CEQ := Lib.hid cEq; clear cEq
              clear p0 p1 p2 p3 p4 p5
              clear q0 q1 q2 q3 q4 q5
              clear r0 r1 r2 r3 r4 r5
              cases t1 with
              | true =>
                have ht2 := HLTT.out rfl
                cases f1 with
                | true =>
                  have hf2 := HLFF.out rfl
                  subst ht2 hf2
                  go_wp2_with fail
                  go_fit CEQ.out; rintro e wm ⟨rfl, hb⟩
                  have HB10 := Lib.hid (bel_trans HBZ.out hb)
                  clear hb
                  go_wp2_with fail
                  go_fit (CA.out _); rintro e wz ⟨rfl, hb⟩
                  have HB11 := Lib.hid (bel_trans HB10.out hb)
                  clear hb
                  go_wp2_with fail
                  go_ret
                  exact ⟨rfl, HB11.out⟩
                | false =>
                  subst ht2
                  go_wp2_with fail
                  go_fit CEQ.out; rintro e wm ⟨rfl, hb⟩
                  have HB10 := Lib.hid (bel_trans HBZ.out hb)
                  clear hb
                  go_wp2_with fail
                  go_fit (CA.out _); rintro e wz ⟨rfl, hb⟩
                  have HB11 := Lib.hid (bel_trans HB10.out hb)
                  clear hb
                  go_wp2_with fail
                  go_ret
                  exact ⟨rfl, HB11.out⟩
              | false =>
                cases f1 with
                | true =>
                  have hf2 := HLFF.out rfl
                  subst hf2
                  go_wp2_with fail
                  go_fit CEQ.out; rintro e wm ⟨rfl, hb⟩
                  have HB10 := Lib.hid (bel_trans HBZ.out hb)
                  clear hb
                  go_wp2_with fail
                  go_fit (CA.out _); rintro e wz ⟨rfl, hb⟩
                  have HB11 := Lib.hid (bel_trans HB10.out hb)
                  clear hb
                  go_wp2_with fail
                  go_ret
                  exact ⟨rfl, HB11.out⟩
                | false =>
                  go_wp2_with fail
                  go_fit CEQ.out; rintro e wm ⟨rfl, hb⟩
                  have HB10 := Lib.hid (bel_trans HBZ.out hb)
                  clear hb
                  go_wp2_with fail
                  go_fit (CA.out _); rintro e wz ⟨rfl, hb⟩
                  have HB11 := Lib.hid (bel_trans HB10.out hb)
                  clear hb
                  go_wp2_with fail
                  go_ret
                  exact ⟨rfl, HB11.out⟩
theorem graphLess_any (p : GProg) (nA : Option Addr) (nl nc : Nat) (sA : Option Addr) (sl sc : Nat) (rA : Option Addr) (rl rc : Nat) (mA : Option Addr) (ml mc : Nat) (a : Int) (w : World) (hp : ProgIn w p nA nl nc sA sl sc rA rl rc mA ml mc) (h0 : 0 ≤ a) (h1 : a ≤ 65535) :
    Calls Try.prog 7 #[.agg #[.int .i64 p.n, .slice nA nl nc, .slice sA sl sc, .slice rA rl rc, .slice mA ml mc], .int .u16 a] w fun e w' => e = .returned (.bool true) ∧ Below w.heap.size w w' := by
  obtain ⟨k, rfl⟩ : ∃ k : Nat, a = (k : Int) := ⟨a.toNat, by omega⟩
  exact graphLess_law p nA nl nc sA sl sc rA rl rc mA ml mc k (by omega) w hp
end Go.Proofs.Ytbfbkpoakmnlpaa

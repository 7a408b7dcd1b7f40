/- The law StableAntichain: it answers true and changes nothing that was there. Printed by mkant.py. -/
import Derived.Test.YtfopcpmckplemaaAnq
import Derived.Test.YtfopcpmckplemaaInn
import Derived.Test.YtfopcpmckplemaaLb3
namespace Go.Proofs.Ytfopcpmckplemaa
open Go.RowKit

def namC (n : Nat) : Array Value := valCells n (fun _ => .string ByteArray.empty)
/-- A program of n unnamed atoms without rules: its cells, the names in block g. -/
def bareC (n : Nat) (g : Nat) (rv : Value) : Array Value := #[.int .i64 (n : Int), .slice (some ⟨g, 0, none⟩) n n, .slice none 0 0, rv, .slice none 0 0]
set_option maxRecDepth 100000 in
set_option maxHeartbeats 1000000 in
theorem with20_blk (n : Nat) (w : World) (hn : n ≤ 4000) :
    Calls Try.prog 9 #[.int .i64 (n : Int), .slice none 0 0] w fun e w' => ∃ g, e = .returned (.agg (bareC n g (.slice none 0 0))) ∧ Blk w' g 9 (namC n) ∧ Below w.heap.size w w' ∧ w.heap.size ≤ g := by
  have hmk := make_str n (by omega)
  have n0 : (0 : Int) ≤ (n : Int) := by omega
  have n1 : (n : Int) ≤ 4000 := by omega
  go_enter Try.func9, Try.ntmps9
  go_wp2_with fail
  change bodyPost _ _ _ _ _ (allocs w (wthO n none 0 0 w.heap.size))
  refine bodyPost_ret (results_cell_row rfl _ _ (w.heap.size + 0) 27 _ (0, 0) _ rfl (allocs_heap (wthO n none 0 0 w.heap.size) w 0 _ rfl) Try.underlying27 rfl (by kernel_rfl)) rfl ?_
  exact ⟨w.heap.size + 1, rfl, allocs_blk (os := wthO n none 0 0 w.heap.size) 1 rfl, allocs_bel _ _, by omega⟩
theorem bare_in {W : World} {n g : Nat} {rA : Option Addr} {rl rc : Nat} {rs : List GRule} (hb : Blk W g 9 (namC n)) (hn : n ≤ 4000) (h : SlIs ruleR W rA rl rc rs) : ProgIn W (withP (n : Int) rs) (some ⟨g, 0, none⟩) n n none 0 0 rA rl rc none 0 0 := by
  refine ⟨by constructor <;> simp [withP] <;> omega, ?_, SlIs.nil _ _, h, SlIs.nil _ _⟩
  refine sl_of_cells hb (by simp [withP]) (by omega) (fun i x hx => ?_)
  have hi : i < n := by
    have := (List.getElem?_eq_some_iff.1 hx).1
    simpa [withP] using this
  have hx' : x = ByteArray.empty := by
    simp only [withP, Int.toNat_natCast] at hx
    rw [List.getElem?_replicate, if_pos hi] at hx
    exact (Option.some.inj hx).symm
  subst hx'
  refine ⟨[.string ByteArray.empty], ⟨rfl, by simp [maxLen]⟩, fun j u hu => ?_⟩
  match j, hu with
  | 0, hu =>
    have hu' : Value.string ByteArray.empty = u := Option.some.inj hu
    subst hu'
    exact valCells_get n (fun _ => .string ByteArray.empty) (i * 1 + 0) (by omega)
  | j + 1, hu => simp at hu
theorem blk_ty {W : World} {g g' : Nat} {t t' : TypeId} {cs cs' : Array Value} (h : Blk W g t cs) (h' : Blk W g' t' cs') (ht : t ≠ t') : g ≠ g' := fun e => by
  subst e
  have := h.symm.trans h'
  simp at this
  exact ht this.2
/-- A box of a program (block u points at) while it is made: zero at first, then a bare program whose cells v holds. -/
def BoxJ (W : World) (n : Nat) (base : Nat) (made stored : Bool) (u v : Value) : Prop :=
  made = true → ∃ g, u = .pointer (some ⟨g, 0, none⟩) ∧ base ≤ g ∧ (stored = false → Blk W g 27 #[.int .i64 0, .slice none 0 0, .slice none 0 0, .slice none 0 0, .slice none 0 0]) ∧ (stored = true → ∃ q, v = .agg (bareC n q (.slice none 0 0)) ∧ Blk W g 27 (bareC n q (.slice none 0 0)))
def NamJ (W : World) (n : Nat) (came : Bool) (v : Value) : Prop := came = true → ∃ q, v = .agg (bareC n q (.slice none 0 0)) ∧ Blk W q 9 (namC n)
theorem BoxJ.bel {W W' : World} {n base : Nat} {m s : Bool} {u v : Value} (h : BoxJ W n base m s u v) (hb : Below W.heap.size W W') : BoxJ W' n base m s u v := fun e => by
  obtain ⟨g, h1, h2, h3, h4⟩ := h e
  exact ⟨g, h1, h2, fun q => (h3 q).bel hb, fun q => by obtain ⟨z, a, b⟩ := h4 q; exact ⟨z, a, b.bel hb⟩⟩
theorem NamJ.bel {W W' : World} {n : Nat} {m : Bool} {v : Value} (h : NamJ W n m v) (hb : Below W.heap.size W W') : NamJ W' n m v := fun e => by
  obtain ⟨q, h1, h2⟩ := h e
  exact ⟨q, h1, h2.bel hb⟩
theorem NamJ.row {W : World} {n : Nat} {m : Bool} {v : Value} (h : NamJ W n m v) {g : Nat} {cs : Array Value} (hg : Blk W g 27 cs) (cs' : Array Value) : NamJ (W.setRow g cs') n m v := fun e => by
  obtain ⟨q, h1, h2⟩ := h e
  exact ⟨q, h1, ((Kept.refl [g] W).row (.inl (by simp)) cs').blk h2 (by simpa using blk_ty h2 hg (by decide))⟩
theorem BoxJ.row {W : World} {n base : Nat} {m s : Bool} {u v : Value} (h : BoxJ W n base m s u v) {g : Nat} (hne : m = true → u ≠ .pointer (some ⟨g, 0, none⟩)) (cs' : Array Value) : BoxJ (W.setRow g cs') n base m s u v := fun e => by
  obtain ⟨k, rfl, h2, h3, h4⟩ := h e
  have hk : k ≠ g := fun e2 => hne e (by rw [e2])
  have hkp : Kept [g] W (W.setRow g cs') := (Kept.refl _ _).row (.inl (by simp)) _
  exact ⟨k, rfl, h2, fun q => hkp.blk (h3 q) (by simpa using hk), fun q => by obtain ⟨z, a, b⟩ := h4 q; exact ⟨z, a, hkp.blk b (by simpa using hk)⟩⟩
theorem Kept.then {S T : List Nat} {w a b : World} (h : Kept S w a) (k : Kept T a b) (hT : ∀ q ∈ T, q ∈ S ∨ w.heap.size ≤ q) : Kept S w b :=
  ⟨k.os.trans h.os, k.tape.trans h.tape, k.output.trans h.output, Nat.le_trans h.size k.size, fun i hi hs => (k.block i (Nat.lt_of_lt_of_le hi h.size) (fun e => by
    rcases hT i e with h1 | h1
    · exact hs h1
    · omega)).trans (h.block i hi hs)⟩
theorem few_body {p : GProg} (h : fewB p = true) : ∀ r ∈ p.rules, r.body.length ≤ 36 := by
  unfold fewB at h
  simp only [Bool.and_eq_true, decide_eq_true_eq, List.all_eq_true] at h
  intro r hr
  have := h.2.2.1 r hr
  omega
structure AntJ (X : World) (n gp : Nat) (W : World) (b0 b1 b2 b3 b4 b5 b6 b7 b8 b9 : Bool) (u26 u27 u28 u29 u30 u31 u3 u4 : Value) : Prop where
  f0 : b0 = true → u26 = .pointer (some ⟨gp, 0, none⟩)
  f1 : b1 = true → u27 = .int .i64 (n : Int)
  f3 : b3 = true → u29 = .pointer (some ⟨gp, 0, none⟩)
  f4 : b4 = true → u30 = .int .i64 (n : Int)
  d8 : b8 = true → b6 = true ∧ b2 = true
  d9 : b9 = true → b7 = true ∧ b5 = true
  bel : Below X.heap.size X W
  n2 : NamJ W n b2 u28
  n5 : NamJ W n b5 u31
  x6 : BoxJ W n X.heap.size b6 b8 u3 u28
  x7 : BoxJ W n X.heap.size b7 b9 u4 u31
  ne : b6 = true → b7 = true → u3 ≠ u4
section
variable {X W : World} {n gp : Nat} {b0 b1 b2 b3 b4 b5 b6 b7 b8 b9 : Bool} {u26 u27 u28 u29 u30 u31 u3 u4 : Value}
theorem AntJ.start (h : Below X.heap.size X W) : AntJ X n gp W false false false false false false false false false false u26 u27 u28 u29 u30 u31 u3 u4 :=
  ⟨by simp, by simp, by simp, by simp, by simp, by simp, h, by simp [NamJ], by simp [NamJ], by simp [BoxJ], by simp [BoxJ], by simp⟩
theorem AntJ.op2 (h : AntJ X n gp W b0 b1 false b3 b4 b5 b6 b7 b8 b9 u26 u27 u28 u29 u30 u31 u3 u4) {W' : World} (hb : Below W.heap.size W W') {q : Nat} (hq : Blk W' q 9 (namC n)) :
    AntJ X n gp W' b0 b1 true b3 b4 b5 b6 b7 b8 b9 u26 u27 (.agg (bareC n q (.slice none 0 0))) u29 u30 u31 u3 u4 := by
  have h8 : b8 = false := by cases b8 with | false => rfl | true => have := (h.d8 rfl).2; cases this
  subst h8
  refine { h with d8 := by simp, bel := h.bel.trans (hb.mono h.bel.size), n2 := fun _ => ⟨q, rfl, hq⟩, n5 := h.n5.bel hb, x6 := fun e => ?_, x7 := h.x7.bel hb }
  obtain ⟨g, a1, a2, a3, _⟩ := h.x6 e
  exact ⟨g, a1, a2, fun e => (a3 e).bel hb, by simp⟩
theorem AntJ.op5 (h : AntJ X n gp W b0 b1 b2 b3 b4 false b6 b7 b8 b9 u26 u27 u28 u29 u30 u31 u3 u4) {W' : World} (hb : Below W.heap.size W W') {q : Nat} (hq : Blk W' q 9 (namC n)) :
    AntJ X n gp W' b0 b1 b2 b3 b4 true b6 b7 b8 b9 u26 u27 u28 u29 u30 (.agg (bareC n q (.slice none 0 0))) u3 u4 := by
  have h9 : b9 = false := by cases b9 with | false => rfl | true => have := (h.d9 rfl).2; cases this
  subst h9
  refine { h with d9 := by simp, bel := h.bel.trans (hb.mono h.bel.size), n5 := fun _ => ⟨q, rfl, hq⟩, n2 := h.n2.bel hb, x7 := fun e => ?_, x6 := h.x6.bel hb }
  obtain ⟨g, a1, a2, a3, _⟩ := h.x7 e
  exact ⟨g, a1, a2, fun e => (a3 e).bel hb, by simp⟩
theorem AntJ.op6 (h : AntJ X n gp W b0 b1 b2 b3 b4 b5 false b7 b8 b9 u26 u27 u28 u29 u30 u31 u3 u4) :
    AntJ X n gp (W.alloc (.cells #[.int .i64 0, .slice none 0 0, .slice none 0 0, .slice none 0 0, .slice none 0 0] 27)) b0 b1 b2 b3 b4 b5 true b7 b8 b9 u26 u27 u28 u29 u30 u31 (.pointer (some ⟨W.heap.size, 0, none⟩)) u4 := by
  have h8 : b8 = false := by cases b8 with | false => rfl | true => have := (h.d8 rfl).1; cases this
  subst h8
  refine { h with d8 := by simp, bel := h.bel.alloc h.bel.size _, n2 := h.n2.bel (bel_alloc _ _), n5 := h.n5.bel (bel_alloc _ _), x6 := fun _ => ⟨_, rfl, h.bel.size, fun _ => Blk.new _ _ _, by simp⟩, x7 := h.x7.bel (bel_alloc _ _), ne := fun _ e => ?_ }
  obtain ⟨g, rfl, e2, e3, e4⟩ := h.x7 e
  have hg : g < W.heap.size := by cases b9 with | false => exact (e3 rfl).lt | true => obtain ⟨_, _, b⟩ := e4 rfl; exact b.lt
  intro e5
  injection e5 with e5; injection e5 with e5; injection e5 with e5; omega
theorem AntJ.op7 (h : AntJ X n gp W b0 b1 b2 b3 b4 b5 b6 false b8 b9 u26 u27 u28 u29 u30 u31 u3 u4) :
    AntJ X n gp (W.alloc (.cells #[.int .i64 0, .slice none 0 0, .slice none 0 0, .slice none 0 0, .slice none 0 0] 27)) b0 b1 b2 b3 b4 b5 b6 true b8 b9 u26 u27 u28 u29 u30 u31 u3 (.pointer (some ⟨W.heap.size, 0, none⟩)) := by
  have h9 : b9 = false := by cases b9 with | false => rfl | true => have := (h.d9 rfl).1; cases this
  subst h9
  refine { h with d9 := by simp, bel := h.bel.alloc h.bel.size _, n2 := h.n2.bel (bel_alloc _ _), n5 := h.n5.bel (bel_alloc _ _), x7 := fun _ => ⟨_, rfl, h.bel.size, fun _ => Blk.new _ _ _, by simp⟩, x6 := h.x6.bel (bel_alloc _ _), ne := fun e _ => ?_ }
  obtain ⟨g, rfl, e2, e3, e4⟩ := h.x6 e
  have hg : g < W.heap.size := by cases b8 with | false => exact (e3 rfl).lt | true => obtain ⟨_, _, b⟩ := e4 rfl; exact b.lt
  intro e5
  injection e5 with e5; injection e5 with e5; injection e5 with e5; omega
theorem AntJ.op8 (h : AntJ X n gp W b0 b1 true b3 b4 b5 true b7 false b9 u26 u27 u28 u29 u30 u31 u3 u4) : ∃ g q, u3 = .pointer (some ⟨g, 0, none⟩) ∧ u28 = .agg (bareC n q (.slice none 0 0)) ∧ Blk W g 27 #[.int .i64 0, .slice none 0 0, .slice none 0 0, .slice none 0 0, .slice none 0 0] ∧
    AntJ X n gp (W.setRow g (bareC n q (.slice none 0 0))) b0 b1 true b3 b4 b5 true b7 true b9 u26 u27 u28 u29 u30 u31 u3 u4 := by
  obtain ⟨g, rfl, e2, e3, -⟩ := h.x6 rfl
  obtain ⟨q, rfl, hq⟩ := h.n2 rfl
  have hg := e3 rfl
  exact ⟨g, q, rfl, rfl, hg, { h with d8 := fun _ => ⟨rfl, rfl⟩, bel := below_row h.bel e2 _, n2 := h.n2.row hg _, n5 := h.n5.row hg _, x6 := fun _ => ⟨g, rfl, e2, by simp, fun _ => ⟨q, rfl, hg.row _⟩⟩, x7 := h.x7.row (fun e => (h.ne rfl e).symm) _ }⟩
theorem AntJ.op9 (h : AntJ X n gp W b0 b1 b2 b3 b4 true b6 true b8 false u26 u27 u28 u29 u30 u31 u3 u4) : ∃ g q, u4 = .pointer (some ⟨g, 0, none⟩) ∧ u31 = .agg (bareC n q (.slice none 0 0)) ∧ Blk W g 27 #[.int .i64 0, .slice none 0 0, .slice none 0 0, .slice none 0 0, .slice none 0 0] ∧
    AntJ X n gp (W.setRow g (bareC n q (.slice none 0 0))) b0 b1 b2 b3 b4 true b6 true b8 true u26 u27 u28 u29 u30 u31 u3 u4 := by
  obtain ⟨g, rfl, e2, e3, -⟩ := h.x7 rfl
  obtain ⟨q, rfl, hq⟩ := h.n5 rfl
  have hg := e3 rfl
  exact ⟨g, q, rfl, rfl, hg, { h with d9 := fun _ => ⟨rfl, rfl⟩, bel := below_row h.bel e2 _, n2 := h.n2.row hg _, n5 := h.n5.row hg _, x7 := fun _ => ⟨g, rfl, e2, by simp, fun _ => ⟨q, rfl, hg.row _⟩⟩, x6 := h.x6.row (fun e => h.ne e rfl) _ }⟩
end

set_option maxRecDepth 100000 in
set_option maxHeartbeats 1000000 in
theorem stableAntichain_law (p : GProg) (nA : Option Addr) (nl nc : Nat) (sA : Option Addr) (sl sc : Nat) (rA : Option Addr) (rl rc : Nat) (mA : Option Addr) (ml mc : Nat) (w : World) (hp : ProgIn w p nA nl nc sA sl sc rA rl rc mA ml mc) :
    Calls Try.prog 3 #[.agg #[.int .i64 p.n, .slice nA nl nc, .slice sA sl sc, .slice rA rl rc, .slice mA ml mc]] w fun e w' => e = .returned (.bool true) ∧ Below w.heap.size w w' := by
  have cS := fun W (hb : Below w.heap.size w W) => small_any p nA nl nc sA sl sc rA rl rc mA ml mc W (hp.ext hb)
  have cA := awake20_any
  cases hsm : smallB p with
  | false =>
    rw [hsm] at cS
    have HP := Lib.hid hp; clear hp
    have CS := Lib.hid cS; clear cS
    have CA := Lib.hid cA; clear cA
    have HSM := Lib.hid hsm; clear hsm
    go_enter Try.func3, Try.ntmps3
    go_wp2_with fail
    go_fit (CS.out _ (bel_alloc _ _)); rintro e w1 ⟨rfl, hb⟩
    have HBW := Lib.hid (bel_trans (bel_alloc _ _) hb)
    clear hb
    go_wp2_with fail
    go_fit (CA.out _); rintro e w2 ⟨rfl, hb⟩
    have HBZ := Lib.hid (bel_trans HBW.out hb)
    clear hb
    go_wp2_with fail
    go_ret
    exact ⟨rfl, HBZ.out⟩
  | true =>
    rw [hsm] at cS
    have hn6 := (small_is hsm).2.1
    have hn0 := valid_n (small_is hsm).2.2
    obtain ⟨N, hN⟩ : ∃ N : Nat, p.n = (N : Int) := ⟨p.n.toNat, by omega⟩
    have hN4 : N ≤ 4000 := by omega
    have L := Lib.hid (anti_law hsm)
    simp only [hN] at cS ⊢
    have HP := Lib.hid hp; clear hp
    have CS := Lib.hid cS; clear cS
    have CA := Lib.hid cA; clear cA
    have HSM := Lib.hid hsm; clear hsm
    have HN := Lib.hid hN; clear hN
    go_enter Try.func3, Try.ntmps3
    go_wp2_with fail
    go_fit (CS.out _ (bel_alloc _ _)); rintro e w1 ⟨rfl, hb⟩
    have HX := Lib.hid ((Blk.new w 27 #[.int .i64 (N : Int), .slice nA nl nc, .slice sA sl sc, .slice rA rl rc, .slice mA ml mc]).bel hb)
    have HBW := Lib.hid (bel_trans (bel_alloc _ _) hb)
    clear hb
    obtain ⟨p0, p1, p2, p3, p4, p5⟩ := pcells HX.out
    go_wp2_with fail
    refine wp_region_inv (fun listed a' w' => ∃ (b0 b1 b2 b3 b4 b5 b6 b7 b8 b9 : Bool) (u26 u27 u28 u29 u30 u31 u3 u4 : Value), listed = #[b0, b1, b2, b3, b4, b5, b6, b7, b8, b9] ∧ a' = { tmps := #[.agg #[.int .i64 (N : Int), .slice nA nl nc, .slice sA sl sc, .slice rA rl rc, .slice mA ml mc], .pointer (some ⟨w.heap.size, 0, none⟩), .bool false, u3, u4, undef, undef, undef, undef, undef, undef, undef, undef, undef, undef, undef, undef, undef, undef, undef, undef, undef, .agg #[.int .i64 (N : Int), .slice nA nl nc, .slice sA sl sc, .slice rA rl rc, .slice mA ml mc], .bool true, .bool false, undef, u26, u27, u28, u29, u30, u31, undef, undef, undef, undef, undef, undef, undef, undef, undef, undef, undef, undef, undef, undef, undef, undef, undef, undef, undef, undef, undef, undef, undef, undef, undef, undef, undef, undef, undef, undef, undef, undef, undef, undef, undef, undef, undef, undef, undef, undef, undef, undef, undef, undef, undef, undef, undef, undef, undef, undef, undef, undef, undef, undef, undef, undef, undef, undef, undef, undef, undef, undef, undef, undef, undef, undef, undef, undef, undef, undef, undef, undef, undef, undef, undef, undef, undef, undef, undef, undef, undef, undef, undef, undef, undef, undef, undef, undef, undef, undef, undef, undef, undef, undef, undef, undef, undef, undef, undef, undef, undef, undef, undef, undef, undef, undef, undef, undef, undef, undef, undef, undef, undef, undef, undef, undef, undef, undef, undef, undef, undef, undef, undef, undef, undef, undef, undef, undef, undef, undef, undef, undef, undef, undef, undef, undef, undef, undef, undef], defers := [] } ∧ AntJ w1 N w.heap.size w' b0 b1 b2 b3 b4 b5 b6 b7 b8 b9 u26 u27 u28 u29 u30 u31 u3 u4) (by kernel_rfl) ?start ?step ?fin
    case start => exact ⟨false, false, false, false, false, false, false, false, false, false, _, _, _, _, _, _, _, _, rfl, rfl, AntJ.start (Below.refl _ _).drew⟩
    case step =>
      rintro listed a' w' i o ⟨b0, b1, b2, b3, b4, b5, b6, b7, b8, b9, u26, u27, u28, u29, u30, u31, u3, u4, rfl, rfl, h⟩ ho hli hd K hK
      match i, ho, hli, hd with
      | 0, ho, hli, hd =>
        obtain rfl := Option.some.inj ho
        obtain rfl : b0 = false := hli
        go_simp
        exact hK _ _ ⟨_, _, _, _, _, _, _, _, _, _, _, _, _, _, _, _, _, _, rfl, rfl, { h with f0 := fun _ => rfl }⟩
      | 1, ho, hli, hd =>
        obtain rfl := Option.some.inj ho
        obtain rfl : b1 = false := hli
        obtain rfl : b0 = true := hd ⟨0, .data⟩ (by simp) rfl
        obtain rfl := h.f0 rfl
        have m0 := (h.bel.cell (World.block_lt_of_cell? _ _ p0)).trans p0
        go_simp
        exact hK _ _ ⟨_, _, _, _, _, _, _, _, _, _, _, _, _, _, _, _, _, _, rfl, rfl, { h with f1 := fun _ => rfl }⟩
      | 2, ho, hli, hd =>
        obtain rfl := Option.some.inj ho
        obtain rfl : b2 = false := hli
        obtain rfl : b1 = true := hd ⟨1, .data⟩ (by simp) rfl
        obtain rfl := h.f1 rfl
        go_simp
        refine (with20_blk N _ hN4).mono ?_
        rintro e v ⟨q, rfl, hq, hb, -⟩
        exact hK _ _ ⟨_, _, _, _, _, _, _, _, _, _, _, _, _, _, _, _, _, _, rfl, rfl, h.op2 hb hq⟩
      | 3, ho, hli, hd =>
        obtain rfl := Option.some.inj ho
        obtain rfl : b3 = false := hli
        go_simp
        exact hK _ _ ⟨_, _, _, _, _, _, _, _, _, _, _, _, _, _, _, _, _, _, rfl, rfl, { h with f3 := fun _ => rfl }⟩
      | 4, ho, hli, hd =>
        obtain rfl := Option.some.inj ho
        obtain rfl : b4 = false := hli
        obtain rfl : b3 = true := hd ⟨3, .data⟩ (by simp) rfl
        obtain rfl := h.f3 rfl
        have m0 := (h.bel.cell (World.block_lt_of_cell? _ _ p0)).trans p0
        go_simp
        exact hK _ _ ⟨_, _, _, _, _, _, _, _, _, _, _, _, _, _, _, _, _, _, rfl, rfl, { h with f4 := fun _ => rfl }⟩
      | 5, ho, hli, hd =>
        obtain rfl := Option.some.inj ho
        obtain rfl : b5 = false := hli
        obtain rfl : b4 = true := hd ⟨4, .data⟩ (by simp) rfl
        obtain rfl := h.f4 rfl
        go_simp
        refine (with20_blk N _ hN4).mono ?_
        rintro e v ⟨q, rfl, hq, hb, -⟩
        exact hK _ _ ⟨_, _, _, _, _, _, _, _, _, _, _, _, _, _, _, _, _, _, rfl, rfl, h.op5 hb hq⟩
      | 6, ho, hli, hd =>
        obtain rfl := Option.some.inj ho
        obtain rfl : b6 = false := hli
        go_simp
        exact hK _ _ ⟨_, _, _, _, _, _, _, _, _, _, _, _, _, _, _, _, _, _, rfl, rfl, h.op6⟩
      | 7, ho, hli, hd =>
        obtain rfl := Option.some.inj ho
        obtain rfl : b7 = false := hli
        go_simp
        exact hK _ _ ⟨_, _, _, _, _, _, _, _, _, _, _, _, _, _, _, _, _, _, rfl, rfl, h.op7⟩
      | 8, ho, hli, hd =>
        obtain rfl := Option.some.inj ho
        obtain rfl : b8 = false := hli
        obtain rfl : b6 = true := hd ⟨6, .data⟩ (by simp) rfl
        obtain rfl : b2 = true := hd ⟨2, .data⟩ (by simp) rfl
        obtain ⟨g, q, rfl, rfl, hB, h'⟩ := h.op8
        rw [if_pos (by rfl)]
        refine wp_store_row 27 _ _ (by rfl) g (bareC N q (.slice none 0 0)) (by rfl) (by rfl) 27 _ hB info_prog (by rfl) (by simp [bareC, Value.oneCell']) ?_
        exact hK _ _ ⟨_, _, _, _, _, _, _, _, _, _, _, _, _, _, _, _, _, _, rfl, rfl, h'⟩
      | 9, ho, hli, hd =>
        obtain rfl := Option.some.inj ho
        obtain rfl : b9 = false := hli
        obtain rfl : b7 = true := hd ⟨7, .data⟩ (by simp) rfl
        obtain rfl : b5 = true := hd ⟨5, .data⟩ (by simp) rfl
        obtain ⟨g, q, rfl, rfl, hB, h'⟩ := h.op9
        rw [if_pos (by rfl)]
        refine wp_store_row 27 _ _ (by rfl) g (bareC N q (.slice none 0 0)) (by rfl) (by rfl) 27 _ hB info_prog (by rfl) (by simp [bareC, Value.oneCell']) ?_
        exact hK _ _ ⟨_, _, _, _, _, _, _, _, _, _, _, _, _, _, _, _, _, _, rfl, rfl, h'⟩
      | i + 10, ho, hli, hd => simp at ho
    case fin =>
      rintro listed a' w' ⟨b0, b1, b2, b3, b4, b5, b6, b7, b8, b9, u26, u27, u28, u29, u30, u31, u3, u4, rfl, rfl, h⟩ hr
      obtain rfl : b0 = true := ready_nil hr (i := 0) rfl (by first | (simp; done) | (simp; intro q; exact absurd q (by decide)))
      obtain rfl : b1 = true := ready_nil hr (i := 1) rfl (by first | (simp; done) | (simp; intro q; exact absurd q (by decide)))
      obtain rfl : b2 = true := ready_nil hr (i := 2) rfl (by first | (simp; done) | (simp; intro q; exact absurd q (by decide)))
      obtain rfl : b3 = true := ready_nil hr (i := 3) rfl (by first | (simp; done) | (simp; intro q; exact absurd q (by decide)))
      obtain rfl : b4 = true := ready_nil hr (i := 4) rfl (by first | (simp; done) | (simp; intro q; exact absurd q (by decide)))
      obtain rfl : b5 = true := ready_nil hr (i := 5) rfl (by first | (simp; done) | (simp; intro q; exact absurd q (by decide)))
      obtain rfl : b6 = true := ready_nil hr (i := 6) rfl (by first | (simp; done) | (simp; intro q; exact absurd q (by decide)))
      obtain rfl : b7 = true := ready_nil hr (i := 7) rfl (by first | (simp; done) | (simp; intro q; exact absurd q (by decide)))
      obtain rfl : b8 = true := ready_nil hr (i := 8) rfl (by first | (simp; done) | (simp; intro q; exact absurd q (by decide)))
      obtain rfl : b9 = true := ready_nil hr (i := 9) rfl (by first | (simp; done) | (simp; intro q; exact absurd q (by decide)))
      clear hr
      obtain ⟨g3, rfl, hg3, -, hz3⟩ := h.x6 rfl
      obtain ⟨g4, rfl, hg4, -, hz4⟩ := h.x7 rfl
      obtain ⟨q3, rfl, hQ3⟩ := hz3 rfl
      obtain ⟨q4, rfl, hQ4⟩ := hz4 rfl
      obtain ⟨z3, e3, hN3⟩ := h.n2 rfl
      obtain ⟨z4, e4, hN4'⟩ := h.n5 rfl
      obtain rfl : q3 = z3 := by simpa [bareC] using e3
      obtain rfl : q4 = z4 := by simpa [bareC] using e4
      have hne : g3 ≠ g4 := fun e => h.ne rfl rfl (by rw [e])
      have hbe := h.bel
      obtain rfl := h.f0 rfl
      obtain rfl := h.f1 rfl
      obtain rfl := h.f3 rfl
      obtain rfl := h.f4 rfl
      clear h hz3 hz4 e3 e4
      obtain ⟨w2, rfl⟩ : ∃ w2 : World, w2 = w' := ⟨_, rfl⟩
      have HX2 := Lib.hid (HX.out.bel hbe)
      have HBX := Lib.hid (bel_trans HBW.out hbe)
      have hg3s : w.heap.size < g3 := by have := p5; omega
      have hg4s : w.heap.size < g4 := by have := p5; omega
      have hw3 : w.heap.size ≤ g3 := by have := HBW.out.size; omega
      have hw4 : w.heap.size ≤ g4 := by have := HBW.out.size; omega
      have hl3 : g3 < w2.heap.size := hQ3.lt
      have hl4 : g4 < w2.heap.size := hQ4.lt
      have hrc := HP.out.rules.cap
      have hrm := HP.out.rules.max
      have hrl : rl ≤ 16 := by have := L.out.few; have := HP.out.rules.len; omega
      clear p0 p1 p2 p3 p4 p5
      obtain ⟨p0, p1, p2, p3, p4, p5⟩ := pcells HX2.out
      clear HX HBW hg3 hg4
      have HQ3 := Lib.hid hQ3; clear hQ3
      have HQ4 := Lib.hid hQ4; clear hQ4
      have HN3 := Lib.hid hN3; clear hN3
      have HN4' := Lib.hid hN4'; clear hN4'
      have HNE := Lib.hid hne; clear hne
      have HBE := Lib.hid hbe; clear hbe
      go_wp2_with fail
      go_loopw [35] (fun t wr => ∃ (k : Nat) (v3 v4 : Value) (cs4 : List Value), k ≤ rl ∧ t = .int .i64 (k : Int) ∧ Blk wr g3 27 (bareC N q3 v3) ∧ Blk wr g4 27 (bareC N q4 v4) ∧ Kept [g3, g4] w2 wr ∧ OwnB ruleR 32 w w2.heap.size wr v3 ((p.rules.take k).map qR) ∧ OutRow wr w2.heap.size v4 cs4 (g3 :: g4 :: (v3.ownBlock.toList ++ v4.ownBlock.toList)) ((p.rules.take k).map posX) ∧ (∀ q, v3.ownBlock = some q → v4.ownBlock ≠ some q)) (fun t _ => rl - (intOf t).toNat)
      case atStart => exact ⟨0, .slice none 0 0, .slice none 0 0, [], Nat.zero_le _, rfl, HQ3.out, HQ4.out, Kept.refl _ _, by simpa using OwnB.nil HBX.out HBX.out.size (Nat.le_refl _), by simpa using OutRow.nil _ _ _, fun q h => by simp [Value.ownBlock] at h⟩
      case round =>
        obtain ⟨wo, rfl⟩ : ∃ wo : World, wo = wr := ⟨_, rfl⟩
        obtain ⟨k, v3, v4, cs4, hk, rfl, hb3, hb4, hkp, ho3, ho4, hnv⟩ := hrel
        by_cases hlt : k < rl
        · obtain ⟨x, hx, -⟩ := HP.out.rules.drop hlt
          obtain ⟨rb, ro, hA, hl, hc, bA, bl, bc, wA, wl, wc, rfl, hrb, e0, e1, e2, e3, e4, e5, i1, i2, i3, i4⟩ := HP.out.rules.rule hx
          have HR := Lib.hid (show RuleIn w x hA hl hc bA bl bc wA wl wc from ⟨i1, i2, i3, i4⟩)
          have hbwr := ho3.below
          have d0 := (hbwr.cell (World.block_lt_of_cell? _ _ e0)).trans e0
          have d1 := (hbwr.cell (World.block_lt_of_cell? _ _ e1)).trans e1
          have d2 := (hbwr.cell (World.block_lt_of_cell? _ _ e2)).trans e2
          have d3 := (hbwr.cell (World.block_lt_of_cell? _ _ e3)).trans e3
          have d4 := (hbwr.cell (World.block_lt_of_cell? _ _ e4)).trans e4
          have d5 := (hbwr.cell (World.block_lt_of_cell? _ _ e5)).trans e5
          have hms3 := map_take_snoc qR hx
          have hms4 := map_take_snoc posX hx
          clear e0 e1 e2 e3 e4 e5 i1 i2 i3 i4
          have hB := ho3.size
          have hwB : w.heap.size ≤ w2.heap.size := HBX.out.size
          have hlen3 : ((p.rules.take k).map qR).length ≤ 16 := by rw [List.length_map]; have := List.length_take_le k p.rules; omega
          obtain ⟨v3', wb, hrun, ho3', hg3', hat3⟩ := (ho3.bel (bel_alloc wo (.cells #[.bool false, .slice hA hl hc, .bool x.sum, .int .i64 x.bound, .slice bA bl bc, .slice wA wl wc] 32))).app1 ety_rule [.bool false, .slice hA hl hc, .bool x.sum, .int .i64 x.bound, .slice bA bl bc, .slice wA wl wc] (qR x) ⟨_, _, _, rfl, ints_of HR.out.head, HR.out.bound, ints_of HR.out.body, ints_of HR.out.wt⟩ (by omega) 24
          rw [← hms3] at ho3'
          rw [World.size_alloc] at hrun
          obtain ⟨oA, oc, ev, -⟩ := ho3'.sl (by rw [List.length_map]; have := List.length_take_le (k + 1) p.rules; omega)
          have n3 : v3.ownBlock ≠ some g3 := fun e => by have := (ho3.lt e).1; omega
          have n4 : v3.ownBlock ≠ some g4 := fun e => by have := (ho3.lt e).1; omega
          have n6 : v3.ownBlock ≠ some wo.heap.size := fun e => by have := (ho3.lt e).2; omega
          have hg6 : Blk (wo.alloc (.cells #[.bool false, .slice hA hl hc, .bool x.sum, .int .i64 x.bound, .slice bA bl bc, .slice wA wl wc] 32)) wo.heap.size 32 #[.bool false, .slice hA hl hc, .bool x.sum, .int .i64 x.bound, .slice bA bl bc, .slice wA wl wc] := Blk.new _ _ _
          have kb3 := (hb3.alloc (.cells #[.bool false, .slice hA hl hc, .bool x.sum, .int .i64 x.bound, .slice bA bl bc, .slice wA wl wc] 32)).grown hg3' (fun e => n3 e.symm)
          have kb4 := (hb4.alloc (.cells #[.bool false, .slice hA hl hc, .bool x.sum, .int .i64 x.bound, .slice bA bl bc, .slice wA wl wc] 32)).grown hg3' (fun e => n4 e.symm)
          have kb6 := hg6.grown hg3' (fun e => n6 e.symm)
          have c3 : wo.cell? ⟨g3, 3, none⟩ = some v3 := hb3.cell 3
          have c3' : wb.cell? ⟨g3, 3, none⟩ = some v3 := kb3.cell 3
          have z3 : wb.frozen? ⟨g3, 3, none⟩ = false := kb3.frozen 3
          have hgr : g3 < wo.heap.size := hb3.lt
          have hgr4 : g4 < wo.heap.size := hb4.lt
          have hwbz : wo.heap.size < wb.heap.size := by have := hg3'.size; simp at this; omega
          have kk : Kept (g3 :: v3.ownBlock.toList) wo (wb.setCell ⟨g3, 3, none⟩ v3') := (((Kept.refl _ wo).alloc _).grown hg3' (fun q hq => .inl (by simp [hq]))).set (.inl (by simp)) _
          have ho9 := ho3'.set (p := ⟨g3, 3, none⟩) hw3 hl3 v3'
          have hb39 : Blk (wb.setCell ⟨g3, 3, none⟩ v3') g3 27 (bareC N q3 v3') := by simpa [bareC] using kb3.set_ 3 v3'
          have hb49 := kb4.far (p := ⟨g3, 3, none⟩) (fun e => HNE.out e.symm) v3'
          have hb69 := kb6.far (p := ⟨g3, 3, none⟩) (by simp; omega) v3'
          have hk9 := hkp.then kk (fun q hq => by
            rcases List.mem_cons.1 hq with rfl | hq
            · exact .inl (by simp)
            · exact .inr (ho3.lt (by simpa using hq)).1)
          have hmo : ∀ q ∈ (g3 :: g4 :: (v3'.ownBlock.toList ++ v4.ownBlock.toList)), q ∈ (g3 :: g4 :: (v3.ownBlock.toList ++ v4.ownBlock.toList)) ∨ wo.heap.size ≤ q := fun q hq => by
            simp only [List.mem_cons, List.mem_append, Option.mem_toList] at hq ⊢
            rcases hq with h | h | h | h
            · exact .inl (.inl h)
            · exact .inl (.inr (.inl h))
            · rcases hat3 q h with h | h
              · exact .inl (.inr (.inr (.inl h)))
              · exact .inr (by simp at h; omega)
            · exact .inl (.inr (.inr (.inr h)))
          have ho49 := ho4.turn kk (fun q hq => by
            rcases List.mem_cons.1 hq with rfl | hq
            · exact ⟨.inl (by simp), fun e => by have := (ho4.1.lt _ e).1; omega⟩
            · have hq' : v3.ownBlock = some q := by simpa using hq
              exact ⟨.inl (by simp [hq']), hnv q hq'⟩) hmo
          have hnv9 : ∀ q, v3'.ownBlock = some q → v4.ownBlock ≠ some q := fun q hq e => by
            rcases hat3 q hq with h | h
            · exact hnv q h e
            · have := (ho4.1.lt q e).2; simp at h; omega
          subst ev
          generalize ((p.rules.take (k + 1)).map qR).length = n9 at *
          clear hmo kk kb3 kb4 kb6 hg6 hlen3 hat3 hnv n3 n4 n6 hms3
          have HX := Lib.hid hx; clear hx
          have HMS4 := Lib.hid hms4; clear hms4
          have HB3 := Lib.hid hb3; clear hb3
          have HB4 := Lib.hid hb4; clear hb4
          have HKP := Lib.hid hkp; clear hkp
          have HO3 := Lib.hid ho3; clear ho3
          have HO4 := Lib.hid ho4; clear ho4
          have HBWR := Lib.hid hbwr; clear hbwr
          have HRUN := Lib.hid hrun; clear hrun
          have HO3' := Lib.hid ho3'; clear ho3'
          have HG3' := Lib.hid hg3'; clear hg3'
          have HO9 := Lib.hid ho9; clear ho9
          have HB39 := Lib.hid hb39; clear hb39
          have HB49 := Lib.hid hb49; clear hb49
          have HB69 := Lib.hid hb69; clear hb69
          have HK9 := Lib.hid hk9; clear hk9
          have HO49 := Lib.hid ho49; clear ho49
          have HNV9 := Lib.hid hnv9; clear hnv9
          go_upto_region 9 with (at_builtin; refine wpList_append_run rfl _ _ _ rfl _ _ rfl rfl _ _ HRUN.out ?_)
          generalize wb.setCell ⟨g3, 3, none⟩ (.slice oA n9 oc) = X9 at *
          clear HB3 HB4 HKP HO3 HO4 HBWR HRUN HO3' HG3' c3 c3' z3 d0 d1 d2 d3 d4 d5
          have y1 : X9.cell? ⟨wo.heap.size, 1, none⟩ = some (.slice hA hl hc) := HB69.out.cell 1
          have y2 : X9.cell? ⟨wo.heap.size, 2, none⟩ = some (.bool x.sum) := HB69.out.cell 2
          have y3 : X9.cell? ⟨wo.heap.size, 3, none⟩ = some (.int .i64 x.bound) := HB69.out.cell 3
          obtain ⟨mh, hme⟩ : ∃ mh : Nat, mh = min hl 1 := ⟨_, rfl⟩
          have hms : (min (hl : Int) 1) = (mh : Int) := by omega
          have hhc := HR.out.head.cap
          have hhm := HR.out.head.max
          have hmh : mh ≤ hl := by omega
          have hmc : mh ≤ hc := by omega
          have HME := Lib.hid hme; clear hme
          refine wp_region_inv (fun listed a' w' => ∃ (b0 b1 b2 b3 b4 b5 b6 b7 b8 b9 b10 b11 b12 b13 : Bool) (u46 u47 u48 u49 u50 u51 u52 u53 u54 u55 u56 u57 u7 : Value), listed = #[b0, b1, b2, b3, b4, b5, b6, b7, b8, b9, b10, b11, b12, b13] ∧ a' = { tmps := #[.agg #[.int .i64 (N : Int), .slice nA nl nc, .slice sA sl sc, .slice (some ⟨rb, ro, none⟩) rl rc, .slice mA ml mc], .pointer (some ⟨w.heap.size, 0, none⟩), .bool false, .pointer (some ⟨g3, 0, none⟩), .pointer (some ⟨g4, 0, none⟩), undef, .pointer (some ⟨wo.heap.size, 0, none⟩), u7, u8, u9, undef, undef, undef, undef, undef, undef, undef, undef, undef, undef, undef, undef, .agg #[.int .i64 (N : Int), .slice nA nl nc, .slice sA sl sc, .slice (some ⟨rb, ro, none⟩) rl rc, .slice mA ml mc], .bool true, .bool false, undef, .pointer (some ⟨w.heap.size, 0, none⟩), .int .i64 (N : Int), .agg (bareC N q3 (.slice none 0 0)), .pointer (some ⟨w.heap.size, 0, none⟩), .int .i64 (N : Int), .agg (bareC N q4 (.slice none 0 0)), .pointer (some ⟨w.heap.size, 3, none⟩), .slice (some ⟨rb, ro, none⟩) rl rc, .int .i64 (rl : Int), .int .i64 (k : Int), .bool true, .pointer (some ⟨rb, ro + k * 6, none⟩), .agg #[.bool x.choice, .slice hA hl hc, .bool x.sum, .int .i64 x.bound, .slice bA bl bc, .slice wA wl wc], .pointer (some ⟨wo.heap.size, 0, none⟩), .pointer (some ⟨g3, 3, none⟩), v3, .agg #[.bool false, .slice hA hl hc, .bool x.sum, .int .i64 x.bound, .slice bA bl bc, .slice wA wl wc], .slice (some ⟨wo.heap.size + 1, 0, none⟩) 1 1, .slice oA n9 oc, .pointer (some ⟨g3, 3, none⟩), u46, u47, u48, u49, u50, u51, u52, u53, u54, u55, u56, u57, u58, u59, u60, u61, u62, u63, u64, u65, u66, u67, u68, u69, u70, u71, u72, u73, u74, u75, u76, u77, u78, u79, u80, u81, u82, u83, u84, u85, u86, u87, u88, u89, u90, u91, u92, u93, undef, undef, undef, undef, undef, undef, undef, undef, undef, undef, undef, undef, undef, undef, undef, undef, undef, undef, undef, undef, undef, undef, undef, undef, undef, undef, undef, undef, undef, undef, undef, undef, undef, undef, undef, undef, undef, undef, undef, undef, undef, undef, undef, undef, undef, undef, undef, undef, undef, undef, undef, undef, undef, undef, undef, undef, undef, undef, undef, undef, undef, undef, undef, undef, undef, undef, undef, undef, undef, undef, undef, undef, undef, undef, undef, undef, undef], defers := [] } ∧ PosJ X9 wo.heap.size hA hl mh hc x.sum x.bound w' b0 b1 b2 b3 b4 b5 b6 b7 b8 b9 b10 b11 b12 b13 u46 u47 u48 u49 u50 u51 u52 u53 u54 u55 u56 u57 u7) (by kernel_rfl) ?start ?step ?fin
          case start => exact ⟨false, false, false, false, false, false, false, false, false, false, false, false, false, false, _, _, _, _, _, _, _, _, _, _, _, _, _, rfl, rfl, PosJ.start (Below.refl _ _).drew⟩
          case step =>
            rintro listed a' w' i o ⟨b0, b1, b2, b3, b4, b5, b6, b7, b8, b9, b10, b11, b12, b13, u46, u47, u48, u49, u50, u51, u52, u53, u54, u55, u56, u57, u7, rfl, rfl, h⟩ ho hli hd K hK
            match i, ho, hli, hd with
            | 0, ho, hli, hd =>
              obtain rfl := Option.some.inj ho
              obtain rfl : b0 = false := hli
              go_simp
              exact hK _ _ ⟨_, _, _, _, _, _, _, _, _, _, _, _, _, _, _, _, _, _, _, _, _, _, _, _, _, _, _, rfl, rfl, { h with f0 := fun _ => rfl }⟩
            | 1, ho, hli, hd =>
              obtain rfl := Option.some.inj ho
              obtain rfl : b1 = false := hli
              obtain rfl : b0 = true := hd ⟨0, .data⟩ (by simp) rfl
              obtain rfl := h.f0 rfl
              have m1 := (h.bel.cell (World.block_lt_of_cell? _ _ y1)).trans y1
              go_simp
              exact hK _ _ ⟨_, _, _, _, _, _, _, _, _, _, _, _, _, _, _, _, _, _, _, _, _, _, _, _, _, _, _, rfl, rfl, { h with f1 := fun _ => rfl }⟩
            | 2, ho, hli, hd =>
              obtain rfl := Option.some.inj ho
              obtain rfl : b2 = false := hli
              go_simp
              exact hK _ _ ⟨_, _, _, _, _, _, _, _, _, _, _, _, _, _, _, _, _, _, _, _, _, _, _, _, _, _, _, rfl, rfl, { h with f2 := fun _ => rfl }⟩
            | 3, ho, hli, hd =>
              obtain rfl := Option.some.inj ho
              obtain rfl : b3 = false := hli
              obtain rfl : b2 = true := hd ⟨2, .data⟩ (by simp) rfl
              obtain rfl := h.f2 rfl
              have m1 := (h.bel.cell (World.block_lt_of_cell? _ _ y1)).trans y1
              go_simp
              exact hK _ _ ⟨_, _, _, _, _, _, _, _, _, _, _, _, _, _, _, _, _, _, _, _, _, _, _, _, _, _, _, rfl, rfl, { h with f3 := fun _ => rfl }⟩
            | 4, ho, hli, hd =>
              obtain rfl := Option.some.inj ho
              obtain rfl : b4 = false := hli
              obtain rfl : b3 = true := hd ⟨3, .data⟩ (by simp) rfl
              obtain rfl := h.f3 rfl
              go_simp
              exact hK _ _ ⟨_, _, _, _, _, _, _, _, _, _, _, _, _, _, _, _, _, _, _, _, _, _, _, _, _, _, _, rfl, rfl, { h with f4 := fun _ => rfl }⟩
            | 5, ho, hli, hd =>
              obtain rfl := Option.some.inj ho
              obtain rfl : b5 = false := hli
              obtain rfl : b4 = true := hd ⟨4, .data⟩ (by simp) rfl
              obtain rfl := h.f4 rfl
              go_simp
              exact hK _ _ ⟨_, _, _, _, _, _, _, _, _, _, _, _, _, _, _, _, _, _, _, _, _, _, _, _, _, _, _, rfl, rfl, { h with f5 := fun _ => rfl }⟩
            | 6, ho, hli, hd =>
              obtain rfl := Option.some.inj ho
              obtain rfl : b6 = false := hli
              obtain rfl : b1 = true := hd ⟨1, .data⟩ (by simp) rfl
              obtain rfl : b5 = true := hd ⟨5, .data⟩ (by simp) rfl
              obtain rfl := h.f1 rfl
              obtain rfl := h.f5 rfl
              go_simp
              exact hK _ _ ⟨_, _, _, _, _, _, _, _, _, _, _, _, _, _, _, _, _, _, _, _, _, _, _, _, _, _, _, rfl, rfl, { h with f6 := fun _ => rfl }⟩
            | 7, ho, hli, hd =>
              obtain rfl := Option.some.inj ho
              obtain rfl : b7 = false := hli
              go_simp
              exact hK _ _ ⟨_, _, _, _, _, _, _, _, _, _, _, _, _, _, _, _, _, _, _, _, _, _, _, _, _, _, _, rfl, rfl, { h with f7 := fun _ => rfl }⟩
            | 8, ho, hli, hd =>
              obtain rfl := Option.some.inj ho
              obtain rfl : b8 = false := hli
              obtain rfl : b7 = true := hd ⟨7, .data⟩ (by simp) rfl
              obtain rfl := h.f7 rfl
              have m2 := (h.bel.cell (World.block_lt_of_cell? _ _ y2)).trans y2
              go_simp
              exact hK _ _ ⟨_, _, _, _, _, _, _, _, _, _, _, _, _, _, _, _, _, _, _, _, _, _, _, _, _, _, _, rfl, rfl, { h with f8 := fun _ => rfl }⟩
            | 9, ho, hli, hd =>
              obtain rfl := Option.some.inj ho
              obtain rfl : b9 = false := hli
              go_simp
              exact hK _ _ ⟨_, _, _, _, _, _, _, _, _, _, _, _, _, _, _, _, _, _, _, _, _, _, _, _, _, _, _, rfl, rfl, { h with f9 := fun _ => rfl }⟩
            | 10, ho, hli, hd =>
              obtain rfl := Option.some.inj ho
              obtain rfl : b10 = false := hli
              obtain rfl : b9 = true := hd ⟨9, .data⟩ (by simp) rfl
              obtain rfl := h.f9 rfl
              have m3 := (h.bel.cell (World.block_lt_of_cell? _ _ y3)).trans y3
              go_simp
              exact hK _ _ ⟨_, _, _, _, _, _, _, _, _, _, _, _, _, _, _, _, _, _, _, _, _, _, _, _, _, _, _, rfl, rfl, { h with f10 := fun _ => rfl }⟩
            | 11, ho, hli, hd =>
              obtain rfl := Option.some.inj ho
              obtain rfl : b11 = false := hli
              obtain rfl : b6 = true := hd ⟨6, .data⟩ (by simp) rfl
              obtain rfl : b8 = true := hd ⟨8, .data⟩ (by simp) rfl
              obtain rfl : b10 = true := hd ⟨10, .data⟩ (by simp) rfl
              obtain rfl := h.f6 rfl
              obtain rfl := h.f8 rfl
              obtain rfl := h.f10 rfl
              go_simp
              exact hK _ _ ⟨_, _, _, _, _, _, _, _, _, _, _, _, _, _, _, _, _, _, _, _, _, _, _, _, _, _, _, rfl, rfl, { h with f11 := fun _ => rfl, d13 := fun e => ⟨(h.d13 e).1, rfl⟩ }⟩
            | 12, ho, hli, hd =>
              obtain rfl := Option.some.inj ho
              obtain rfl : b12 = false := hli
              go_simp
              exact hK _ _ ⟨_, _, _, _, _, _, _, _, _, _, _, _, _, _, _, _, _, _, _, _, _, _, _, _, _, _, _, rfl, rfl, h.op12⟩
            | 13, ho, hli, hd =>
              obtain rfl := Option.some.inj ho
              obtain rfl : b13 = false := hli
              obtain rfl : b12 = true := hd ⟨12, .data⟩ (by simp) rfl
              obtain rfl : b11 = true := hd ⟨11, .data⟩ (by simp) rfl
              obtain rfl := h.f11 rfl
              obtain ⟨g, rfl, hB, h'⟩ := h.op13
              rw [if_pos (by rfl)]
              refine wp_store_row 32 _ _ (by rfl) g #[.bool false, .slice hA mh hc, .bool x.sum, .int .i64 x.bound, .slice none 0 0, .slice none 0 0] (by rfl) (by rfl) 32 _ hB info_rule (by rfl) (by simp [Value.oneCell']) ?_
              exact hK _ _ ⟨_, _, _, _, _, _, _, _, _, _, _, _, _, _, _, _, _, _, _, _, _, _, _, _, _, _, _, rfl, rfl, h'⟩
            | i + 14, ho, hli, hd => simp at ho
          case fin =>
            rintro listed a' w' ⟨b0, b1, b2, b3, b4, b5, b6, b7, b8, b9, b10, b11, b12, b13, u46, u47, u48, u49, u50, u51, u52, u53, u54, u55, u56, u57, u7, rfl, rfl, h⟩ hr
            obtain rfl : b0 = true := ready_nil hr (i := 0) rfl (by first | (simp; done) | (simp; intro q; exact absurd q (by decide)))
            obtain rfl : b1 = true := ready_nil hr (i := 1) rfl (by first | (simp; done) | (simp; intro q; exact absurd q (by decide)))
            obtain rfl : b2 = true := ready_nil hr (i := 2) rfl (by first | (simp; done) | (simp; intro q; exact absurd q (by decide)))
            obtain rfl : b3 = true := ready_nil hr (i := 3) rfl (by first | (simp; done) | (simp; intro q; exact absurd q (by decide)))
            obtain rfl : b4 = true := ready_nil hr (i := 4) rfl (by first | (simp; done) | (simp; intro q; exact absurd q (by decide)))
            obtain rfl : b5 = true := ready_nil hr (i := 5) rfl (by first | (simp; done) | (simp; intro q; exact absurd q (by decide)))
            obtain rfl : b6 = true := ready_nil hr (i := 6) rfl (by first | (simp; done) | (simp; intro q; exact absurd q (by decide)))
            obtain rfl : b7 = true := ready_nil hr (i := 7) rfl (by first | (simp; done) | (simp; intro q; exact absurd q (by decide)))
            obtain rfl : b8 = true := ready_nil hr (i := 8) rfl (by first | (simp; done) | (simp; intro q; exact absurd q (by decide)))
            obtain rfl : b9 = true := ready_nil hr (i := 9) rfl (by first | (simp; done) | (simp; intro q; exact absurd q (by decide)))
            obtain rfl : b10 = true := ready_nil hr (i := 10) rfl (by first | (simp; done) | (simp; intro q; exact absurd q (by decide)))
            obtain rfl : b11 = true := ready_nil hr (i := 11) rfl (by first | (simp; done) | (simp; intro q; exact absurd q (by decide)))
            obtain rfl : b12 = true := ready_nil hr (i := 12) rfl (by first | (simp; done) | (simp; intro q; exact absurd q (by decide)))
            obtain rfl : b13 = true := ready_nil hr (i := 13) rfl (by first | (simp; done) | (simp; intro q; exact absurd q (by decide)))
            clear hr
            obtain ⟨g7, rfl, hg7, -, h7⟩ := h.a7 rfl
            have h7 := h7 rfl
            have hb9 := h.bel
            obtain rfl := h.f0 rfl
            obtain rfl := h.f1 rfl
            obtain rfl := h.f2 rfl
            obtain rfl := h.f3 rfl
            obtain rfl := h.f4 rfl
            obtain rfl := h.f5 rfl
            obtain rfl := h.f6 rfl
            obtain rfl := h.f7 rfl
            obtain rfl := h.f8 rfl
            obtain rfl := h.f9 rfl
            obtain rfl := h.f10 rfl
            obtain rfl := h.f11 rfl
            clear h
            have hw9 := bel_trans HO9.out.below hb9
            have hr6 := HB69.out.bel hb9
            have hb3z := HB39.out.bel hb9
            have hb4z := HB49.out.bel hb9
            have ho3z := HO9.out.bel hb9
            have hk9z := HK9.out.bel hb9
            have hxz := hb9.size
            have h6X : wo.heap.size < X9.heap.size := HB69.out.lt
            have hg7w : w.heap.size ≤ g7 := by have := HO9.out.below.size; omega
            have hg7l : g7 < w'.heap.size := h7.lt
            have hwB9 : w2.heap.size ≤ X9.heap.size := HO9.out.size
            have HO9X := HO9
            clear y1 y2 y3 HO9 HB69 HB39 HB49 HK9 hgr hgr4 hwbz
            have k4 : w'.cell? ⟨wo.heap.size, 4, none⟩ = some (.slice bA bl bc) := hr6.cell 4
            have hbc := HR.out.body.cap
            have hbm := HR.out.body.max
            have hb36 : bl ≤ 36 := by have := HR.out.body.len; have := few_body (small_is HSM.out).1 x (List.mem_of_getElem? HX.out); omega
            have HI := Lib.hid ((validE_is (small_is HSM.out).2.2).rules x (List.mem_of_getElem? HX.out))
            generalize hW9 : w' = W9 at *
            clear hW9
            have H7 := Lib.hid h7; clear h7
            have HB9 := Lib.hid hb9; clear hb9
            have HW9 := Lib.hid hw9; clear hw9
            have HR6 := Lib.hid hr6; clear hr6
            have HB3Z := Lib.hid hb3z; clear hb3z
            have HB4Z := Lib.hid hb4z; clear hb4z
            have HO3Z := Lib.hid ho3z; clear ho3z
            have HK9Z := Lib.hid hk9z; clear hk9z
            go_wp2_with fail
            clear k4
            go_loopw [61] (fun t wq => ∃ (i lb lw : Nat) (vb vw : Value), i ≤ bl ∧ t = .int .i64 (i : Int) ∧ Blk wq g7 32 #[.bool false, .slice hA mh hc, .bool x.sum, .int .i64 x.bound, vb, vw] ∧ OwnI wq W9.heap.size vb lb ((x.body.take i).filter isPos) ∧ OwnI wq W9.heap.size vw lw (wOf x i) ∧ (∀ q, vb.ownBlock = some q → vw.ownBlock ≠ some q) ∧ Kept [g7] W9 wq) (fun t _ => bl - (intOf t).toNat)
            case atStart => exact ⟨0, 0, 0, .slice none 0 0, .slice none 0 0, Nat.zero_le _, rfl, H7.out, by simpa using OwnI.nil _ _, by rw [show wOf x 0 = [] from by unfold wOf; split <;> simp [posW]]; exact OwnI.nil _ _, fun q h => by simp [Value.ownBlock] at h, Kept.refl _ _⟩
            case round =>
              obtain ⟨wq, rfl⟩ : ∃ wq : World, wq = wr := ⟨_, rfl⟩
              obtain ⟨i, lb, lw, vb, vw, hi, rfl, h7q, hob, how, hnb, hkq⟩ := hrel
              have hwq := Kept.below HW9.out hkq HW9.out.size (fun q hq => by simp at hq; omega)
              have hbq : W9.heap.size ≤ wq.heap.size := hkq.size
              have h6q := hkq.blk HR6.out (by simp; omega)
              by_cases hlt2 : i < bl
              · obtain ⟨y, hy, -⟩ := HR.out.body.drop hlt2
                obtain ⟨bb, bo, rfl, _, cy0, hy64⟩ := HR.out.body.int hy
                have cy := (hwq.cell (World.block_lt_of_cell? _ _ cy0)).trans cy0
                have j0 : (0 : Int) ≤ (i : Int) := by omega
                have j1 : (i : Int) < (bl : Int) := by omega
                have hft := filt_take hy
                have hlbi : lb ≤ i := by have := hob.len; have := List.length_filter_le isPos (x.body.take i); have := List.length_take_le i x.body; omega
                by_cases hpos : 0 < y
                · rw [if_pos (by simp [isPos, hpos])] at hft
                  obtain ⟨vb', wb1, hrunb, hob', hgb, hatb⟩ := app1 hob y (by omega) hbq 23
                  rw [← hft] at hob'
                  obtain ⟨pA, pc, evb, -⟩ := hob'.sl (by omega) (fun z hz => HR.out.body.all64 z (List.mem_of_mem_take (List.mem_filter.1 hz).1))
                  subst evb
                  have n7 : vb.ownBlock ≠ some g7 := fun e => by have := (hob.2.lt g7 e).1; omega
                  have n6 : vb.ownBlock ≠ some wo.heap.size := fun e => by have := (hob.2.lt _ e).1; omega
                  have nw7 : vw.ownBlock ≠ some g7 := fun e => by have := (how.2.lt g7 e).1; omega
                  have kb7 := h7q.grown hgb (fun e => n7 e.symm)
                  have kb6 := h6q.grown hgb (fun e => n6 e.symm)
                  have c4 : wq.cell? ⟨g7, 4, none⟩ = some vb := h7q.cell 4
                  have c7 : wb1.cell? ⟨g7, 4, none⟩ = some vb := kb7.cell 4
                  have z7 : wb1.frozen? ⟨g7, 4, none⟩ = false := kb7.frozen 4
                  have hkS : Kept [g7] wb1 (wb1.setCell ⟨g7, 4, none⟩ (.slice pA (lb + 1) pc)) := (Kept.refl _ _).set (.inl (by simp)) _
                  have h7b : Blk (wb1.setCell ⟨g7, 4, none⟩ (.slice pA (lb + 1) pc)) g7 32 #[.bool false, .slice hA mh hc, .bool x.sum, .int .i64 x.bound, (.slice pA (lb + 1) pc), vw] := by simpa using kb7.set_ 4 (.slice pA (lb + 1) pc)
                  have h6b := kb6.far (p := ⟨g7, 4, none⟩) (by simp; omega) (.slice pA (lb + 1) pc)
                  have how1 := (how.kept hgb (by
                    cases hv : vw.ownBlock with
                    | none => exact .inl rfl
                    | some q => exact .inr (fun e => hnb q e.symm hv))).keptS hkS (fun q hq => by simp; rintro rfl; exact nw7 hq)
                  have hob1 := hob'.keptS hkS (fun q hq => by simp; rintro rfl; have := (hob'.2.lt _ hq).1; omega)
                  have hkX := (hkq.grown hgb (fun q hq => .inr (hob.2.lt q hq).1)).set (p := ⟨g7, 4, none⟩) (.inl (by simp)) (.slice pA (lb + 1) pc)
                  have hnX : ∀ q, ((.slice pA (lb + 1) pc) : Value).ownBlock = some q → vw.ownBlock ≠ some q := fun q hq e => by
                    rcases hatb q hq with h | h
                    · exact hnb q h e
                    · have := (how.2.lt q e).2; omega
                  have hwX := Kept.below HW9.out hkX HW9.out.size (fun q hq => by simp at hq; omega)
                  clear kb7 kb6 hkS hnb hkq hatb n7 n6
                  rcases Bool.eq_false_or_eq_true x.sum with hsum | hsum
                  · have k2 : (wb1.setCell ⟨g7, 4, none⟩ (.slice pA (lb + 1) pc)).cell? ⟨wo.heap.size, 2, none⟩ = some (.bool true) := by rw [← hsum]; exact h6b.cell 2
                    have HY := Lib.hid hy; clear hy
                    have HFT := Lib.hid hft; clear hft
                    have H7Q := Lib.hid h7q; clear h7q
                    have HOB := Lib.hid hob; clear hob
                    have HOW := Lib.hid how; clear how
                    have HWQ := Lib.hid hwq; clear hwq
                    have H6Q := Lib.hid h6q; clear h6q
                    have HRUNB := Lib.hid hrunb; clear hrunb
                    have HOB' := Lib.hid hob'; clear hob'
                    have HGB := Lib.hid hgb; clear hgb
                    have H7B := Lib.hid h7b; clear h7b
                    have H6B := Lib.hid h6b; clear h6b
                    have HOW1 := Lib.hid how1; clear how1
                    have HOB1 := Lib.hid hob1; clear hob1
                    have HKX := Lib.hid hkX; clear hkX
                    have HNX := Lib.hid hnX; clear hnX
                    have HSUM := Lib.hid hsum; clear hsum
                    have HWX := Lib.hid hwX; clear hwX
                    go_upto_region 16 with (at_builtin; refine wpList_append_run rfl _ _ _ rfl _ _ rfl rfl _ _ HRUNB.out ?_)
                    obtain ⟨z, hz, -⟩ := HR.out.wt.drop (k := i) (by have := HI.out.wlen HSUM.out; have := HR.out.wt.len; have := HR.out.body.len; omega)
                    have hiw : i < wl := by have := HI.out.wlen HSUM.out; have := HR.out.wt.len; have := HR.out.body.len; omega
                    obtain ⟨yb, yo, rfl, _, cz0, hz64⟩ := HR.out.wt.int hz
                    have hwo : wOf x (i + 1) = wOf x i ++ [z] := by
                      unfold wOf
                      rw [if_pos HSUM.out, if_pos HSUM.out, posW_take (zp_at HY.out hz), show isPos y = true from by simp [isPos]; omega, if_pos rfl]
                    have hws : ∀ q ∈ wOf x i, I64 q := fun q hq => by
                      unfold wOf at hq
                      rw [if_pos HSUM.out] at hq
                      obtain ⟨a, ha⟩ := posW_mem hq
                      exact HR.out.wt.all64 q (List.of_mem_zip (List.mem_of_mem_take ha)).2
                    have hlw : lw < 1000000 := by
                      have h1 := HOW.out.len
                      have h2 : (wOf x i).length ≤ i := by
                        unfold wOf
                        rw [if_pos HSUM.out]
                        have := posW_len ((zp x).take i); have := List.length_take_le i (zp x); omega
                      omega
                    have hwc := HR.out.wt.cap
                    have hwm := HR.out.wt.max
                    have k0 : (0 : Int) ≤ (i : Int) := by omega
                    have k1' : (i : Int) < (wl : Int) := by omega
                    have hxb : wq.heap.size ≤ (wb1.setCell ⟨g7, 4, none⟩ (.slice pA (lb + 1) pc)).heap.size := by have := HGB.out.size; simpa [World.setCell] using this
                    generalize hXb : wb1.setCell ⟨g7, 4, none⟩ (.slice pA (lb + 1) pc) = Xb at *
                    clear hXb
                    have k5 := H7B.out.cell 5
                    have k6 := H6B.out.cell 5
                    have k7 := (HWX.out.cell (World.block_lt_of_cell? _ _ cz0)).trans cz0
                    have hn7w : vw.ownBlock ≠ some g7 := nw7
                    have HOW0 := Lib.hid HOW.out
                    have HOWX := HOW1
                    clear HOW c4 c7 z7 k2 cy HRUNB HOB HOB' HGB H7Q H6Q cz0 cy0
                    have HOW := HOWX
                    have HZ := Lib.hid hz; clear hz
                    have HIW := Lib.hid hiw; clear hiw
                    have HWO := Lib.hid hwo; clear hwo
                    refine wp_region_inv (fun listed a' w' => ∃ (b0 b1 b2 b3 b4 b5 b6 b7 b8 b9 b10 : Bool) (u76 u77 u78 u79 u80 u81 u82 u83 u84 u85 : Value), listed = #[b0, b1, b2, b3, b4, b5, b6, b7, b8, b9, b10] ∧ a' = { tmps := #[.agg #[.int .i64 (N : Int), .slice nA nl nc, .slice sA sl sc, .slice (some ⟨rb, ro, none⟩) rl rc, .slice mA ml mc], .pointer (some ⟨w.heap.size, 0, none⟩), .bool false, .pointer (some ⟨g3, 0, none⟩), .pointer (some ⟨g4, 0, none⟩), undef, .pointer (some ⟨wo.heap.size, 0, none⟩), .pointer (some ⟨g7, 0, none⟩), .int .i64 (i : Int), .int .i64 y, undef, undef, undef, undef, undef, undef, undef, undef, undef, undef, undef, undef, .agg #[.int .i64 (N : Int), .slice nA nl nc, .slice sA sl sc, .slice (some ⟨rb, ro, none⟩) rl rc, .slice mA ml mc], .bool true, .bool false, undef, .pointer (some ⟨w.heap.size, 0, none⟩), .int .i64 (N : Int), .agg (bareC N q3 (.slice none 0 0)), .pointer (some ⟨w.heap.size, 0, none⟩), .int .i64 (N : Int), .agg (bareC N q4 (.slice none 0 0)), .pointer (some ⟨w.heap.size, 3, none⟩), .slice (some ⟨rb, ro, none⟩) rl rc, .int .i64 (rl : Int), .int .i64 (k : Int), .bool true, .pointer (some ⟨rb, ro + k * 6, none⟩), .agg #[.bool x.choice, .slice hA hl hc, .bool x.sum, .int .i64 x.bound, .slice (some ⟨bb, bo, none⟩) bl bc, .slice (some ⟨yb, yo, none⟩) wl wc], .pointer (some ⟨wo.heap.size, 0, none⟩), .pointer (some ⟨g3, 3, none⟩), v3, .agg #[.bool false, .slice hA hl hc, .bool x.sum, .int .i64 x.bound, .slice (some ⟨bb, bo, none⟩) bl bc, .slice (some ⟨yb, yo, none⟩) wl wc], .slice (some ⟨wo.heap.size + 1, 0, none⟩) 1 1, .slice oA n9 oc, .pointer (some ⟨g3, 3, none⟩), .pointer (some ⟨wo.heap.size, 1, none⟩), .slice hA hl hc, .pointer (some ⟨wo.heap.size, 1, none⟩), .slice hA hl hc, .int .i64 (hl : Int), .int .i64 (mh : Int), .slice hA mh hc, .pointer (some ⟨wo.heap.size, 2, none⟩), .bool x.sum, .pointer (some ⟨wo.heap.size, 3, none⟩), .int .i64 x.bound, .agg #[.bool false, .slice hA mh hc, .bool x.sum, .int .i64 x.bound, .slice none 0 0, .slice none 0 0], .pointer (some ⟨wo.heap.size, 4, none⟩), .slice (some ⟨bb, bo, none⟩) bl bc, .int .i64 (bl : Int), .int .i64 (i : Int), .bool true, .int .i64 (i : Int), .pointer (some ⟨bb, bo + i, none⟩), .int .i64 y, .int .i64 y, .bool true, .pointer (some ⟨g7, 4, none⟩), vb, .int .i64 y, .slice (some ⟨wq.heap.size, 0, none⟩) 1 1, .slice pA (lb + 1) pc, .pointer (some ⟨g7, 4, none⟩), .pointer (some ⟨wo.heap.size, 2, none⟩), .bool true, u76, u77, u78, u79, u80, u81, u82, u83, u84, u85, u86, u87, u88, u89, u90, u91, u92, u93, undef, undef, undef, undef, undef, undef, undef, undef, undef, undef, undef, undef, undef, undef, undef, undef, undef, undef, undef, undef, undef, undef, undef, undef, undef, undef, undef, undef, undef, undef, undef, undef, undef, undef, undef, undef, undef, undef, undef, undef, undef, undef, undef, undef, undef, undef, undef, undef, undef, undef, undef, undef, undef, undef, undef, undef, undef, undef, undef, undef, undef, undef, undef, undef, undef, undef, undef, undef, undef, undef, undef, undef, undef, undef, undef, undef, undef], defers := [] } ∧ WgtJ Xb wo.heap.size g7 W9.heap.size vw lw (wOf x i) (some ⟨yb, yo, none⟩) wl wc i yb yo z w' b0 b1 b2 b3 b4 b5 b6 b7 b8 b9 b10 u76 u77 u78 u79 u80 u81 u82 u83 u84 u85) (by kernel_rfl) ?start ?step ?fin
                    case start => exact ⟨false, false, false, false, false, false, false, false, false, false, false, _, _, _, _, _, _, _, _, _, _, rfl, rfl, WgtJ.start (Below.refl _ _).drew HOW.out⟩
                    case step =>
                      rintro listed a' w' i o ⟨b0, b1, b2, b3, b4, b5, b6, b7, b8, b9, b10, u76, u77, u78, u79, u80, u81, u82, u83, u84, u85, rfl, rfl, h⟩ ho hli hd K hK
                      match i, ho, hli, hd with
                      | 0, ho, hli, hd =>
                        obtain rfl := Option.some.inj ho
                        obtain rfl : b0 = false := hli
                        go_simp
                        exact hK _ _ ⟨_, _, _, _, _, _, _, _, _, _, _, _, _, _, _, _, _, _, _, _, _, rfl, rfl, { h with f0 := fun _ => rfl }⟩
                      | 1, ho, hli, hd =>
                        obtain rfl := Option.some.inj ho
                        obtain rfl : b1 = false := hli
                        obtain rfl : b0 = true := hd ⟨0, .data⟩ (by simp) rfl
                        obtain rfl := h.f0 rfl
                        have h8 := h.n8b (by simp)
                        subst h8
                        have hbx := h.bel rfl
                        have m1 := (hbx.cell (World.block_lt_of_cell? _ _ k5)).trans k5
                        go_simp
                        exact hK _ _ ⟨_, _, _, _, _, _, _, _, _, _, _, _, _, _, _, _, _, _, _, _, _, rfl, rfl, { h with f1 := fun _ => rfl, d8 := by simp }⟩
                      | 2, ho, hli, hd =>
                        obtain rfl := Option.some.inj ho
                        obtain rfl : b2 = false := hli
                        go_simp
                        exact hK _ _ ⟨_, _, _, _, _, _, _, _, _, _, _, _, _, _, _, _, _, _, _, _, _, rfl, rfl, { h with f2 := fun _ => rfl }⟩
                      | 3, ho, hli, hd =>
                        obtain rfl := Option.some.inj ho
                        obtain rfl : b3 = false := hli
                        obtain rfl : b2 = true := hd ⟨2, .data⟩ (by simp) rfl
                        obtain rfl := h.f2 rfl
                        have h8 := h.n8b (by simp)
                        subst h8
                        have hbx := h.bel rfl
                        have m3 := (hbx.cell (World.block_lt_of_cell? _ _ k6)).trans k6
                        go_simp
                        exact hK _ _ ⟨_, _, _, _, _, _, _, _, _, _, _, _, _, _, _, _, _, _, _, _, _, rfl, rfl, { h with f3 := fun _ => rfl, d5 := fun _ => rfl }⟩
                      | 4, ho, hli, hd =>
                        obtain rfl := Option.some.inj ho
                        obtain rfl : b4 = false := hli
                        go_simp
                        exact hK _ _ ⟨_, _, _, _, _, _, _, _, _, _, _, _, _, _, _, _, _, _, _, _, _, rfl, rfl, { h with f4 := fun _ => rfl }⟩
                      | 5, ho, hli, hd =>
                        obtain rfl := Option.some.inj ho
                        obtain rfl : b5 = false := hli
                        obtain rfl : b3 = true := hd ⟨3, .data⟩ (by simp) rfl
                        obtain rfl : b4 = true := hd ⟨4, .data⟩ (by simp) rfl
                        obtain rfl := h.f3 rfl
                        obtain rfl := h.f4 rfl
                        go_simp
                        exact hK _ _ ⟨_, _, _, _, _, _, _, _, _, _, _, _, _, _, _, _, _, _, _, _, _, rfl, rfl, { h with f5 := fun _ => rfl, d5 := fun _ => rfl, d6 := fun _ => rfl }⟩
                      | 6, ho, hli, hd =>
                        obtain rfl := Option.some.inj ho
                        obtain rfl : b6 = false := hli
                        obtain rfl : b5 = true := hd ⟨5, .data⟩ (by simp) rfl
                        obtain rfl := h.f5 rfl
                        have h8 := h.n8b (by simp)
                        subst h8
                        have hbx := h.bel rfl
                        have m6 := (hbx.cell (World.block_lt_of_cell? _ _ k7)).trans k7
                        go_simp
                        exact hK _ _ ⟨_, _, _, _, _, _, _, _, _, _, _, _, _, _, _, _, _, _, _, _, _, rfl, rfl, { h with f6 := fun _ => rfl, d6 := fun _ => rfl, d7 := fun _ => rfl }⟩
                      | 7, ho, hli, hd =>
                        obtain rfl := Option.some.inj ho
                        obtain rfl : b7 = false := hli
                        obtain rfl : b6 = true := hd ⟨6, .data⟩ (by simp) rfl
                        obtain rfl := h.f6 rfl
                        go_simp
                        exact hK _ _ ⟨_, _, _, _, _, _, _, _, _, _, _, _, _, _, _, _, _, _, _, _, _, rfl, rfl, h.op7⟩
                      | 8, ho, hli, hd =>
                        obtain rfl := Option.some.inj ho
                        obtain rfl : b8 = false := hli
                        obtain rfl : b1 = true := hd ⟨1, .data⟩ (by simp) rfl
                        obtain rfl : b7 = true := hd ⟨7, .data⟩ (by simp) rfl
                        obtain rfl := h.f1 rfl
                        obtain ⟨g, v', w'', rfl, hrun, h'⟩ := h.op8 hlw hz64 hws (by omega) 23
                        refine step_appV (by rfl) _ _ 23 (by rfl) (by rfl) (by rfl) hrun ?_
                        exact hK _ _ ⟨_, _, _, _, _, _, _, _, _, _, _, _, _, _, _, _, _, _, _, _, _, rfl, rfl, h'⟩
                      | 9, ho, hli, hd =>
                        obtain rfl := Option.some.inj ho
                        obtain rfl : b9 = false := hli
                        go_simp
                        exact hK _ _ ⟨_, _, _, _, _, _, _, _, _, _, _, _, _, _, _, _, _, _, _, _, _, rfl, rfl, { h with f9 := fun _ => rfl, d10 := fun e => ⟨(h.d10 e).1, rfl⟩ }⟩
                      | 10, ho, hli, hd =>
                        obtain rfl := Option.some.inj ho
                        obtain rfl : b10 = false := hli
                        obtain rfl : b8 = true := hd ⟨8, .data⟩ (by simp) rfl
                        obtain rfl : b9 = true := hd ⟨9, .data⟩ (by simp) rfl
                        obtain rfl := h.f9 rfl
                        have k8 := h.c5 H7B.out hn7w
                        have k9 := k8.cell 5
                        have k10 := k8.frozen 5
                        obtain ⟨oA', oc', rfl, h'⟩ := h.op10
                        go_simp
                        exact hK _ _ ⟨_, _, _, _, _, _, _, _, _, _, _, _, _, _, _, _, _, _, _, _, _, rfl, rfl, h'⟩
                      | i + 11, ho, hli, hd => simp at ho
                    case fin =>
                      rintro listed a' w' ⟨b0, b1, b2, b3, b4, b5, b6, b7, b8, b9, b10, u76, u77, u78, u79, u80, u81, u82, u83, u84, u85, rfl, rfl, h⟩ hr
                      obtain rfl : b0 = true := ready_nil hr (i := 0) rfl (by first | (simp; done) | (simp; intro q; exact absurd q (by decide)))
                      obtain rfl : b1 = true := ready_nil hr (i := 1) rfl (by first | (simp; done) | (simp; intro q; exact absurd q (by decide)))
                      obtain rfl : b2 = true := ready_nil hr (i := 2) rfl (by first | (simp; done) | (simp; intro q; exact absurd q (by decide)))
                      obtain rfl : b3 = true := ready_nil hr (i := 3) rfl (by first | (simp; done) | (simp; intro q; exact absurd q (by decide)))
                      obtain rfl : b4 = true := ready_nil hr (i := 4) rfl (by first | (simp; done) | (simp; intro q; exact absurd q (by decide)))
                      obtain rfl : b5 = true := ready_nil hr (i := 5) rfl (by first | (simp; done) | (simp; intro q; exact absurd q (by decide)))
                      obtain rfl : b6 = true := ready_nil hr (i := 6) rfl (by first | (simp; done) | (simp; intro q; exact absurd q (by decide)))
                      obtain rfl : b7 = true := ready_nil hr (i := 7) rfl (by first | (simp; done) | (simp; intro q; exact absurd q (by decide)))
                      obtain rfl : b8 = true := ready_nil hr (i := 8) rfl (by first | (simp; done) | (simp; intro q; exact absurd q (by decide)))
                      obtain rfl : b9 = true := ready_nil hr (i := 9) rfl (by first | (simp; done) | (simp; intro q; exact absurd q (by decide)))
                      obtain rfl : b10 = true := ready_nil hr (i := 10) rfl (by first | (simp; done) | (simp; intro q; exact absurd q (by decide)))
                      clear hr
                      obtain ⟨W1, A1, c1, rfl, hown1, hgr1, hat1, rfl⟩ := h.fin rfl
                      have nb7 : (Value.slice pA (lb + 1) pc).ownBlock ≠ some g7 := fun e => by have := (HOB1.out.2.lt _ e).1; omega
                      have kz7 := H7B.out.grown hgr1 (fun e => hn7w e.symm)
                      have h7w : Blk (W1.setCell ⟨g7, 5, none⟩ (.slice A1 (lw + 1) c1)) g7 32 #[.bool false, .slice hA mh hc, .bool x.sum, .int .i64 x.bound, .slice pA (lb + 1) pc, .slice A1 (lw + 1) c1] := by simpa using kz7.set_ 5 (.slice A1 (lw + 1) c1)
                      have hkS : Kept [g7] W1 (W1.setCell ⟨g7, 5, none⟩ (.slice A1 (lw + 1) c1)) := (Kept.refl _ _).set (.inl (by simp)) _
                      have hobw := (HOB1.out.kept hgr1 (by
                        cases hv : (Value.slice pA (lb + 1) pc).ownBlock with
                        | none => exact .inl rfl
                        | some q => exact .inr (fun e => HNX.out q hv e.symm))).keptS hkS (fun q hq => by simp; rintro rfl; exact nb7 hq)
                      have howw := hown1.keptS hkS (fun q hq => by simp; rintro rfl; have := (hown1.2.lt _ hq).1; omega)
                      have hkw := (HKX.out.grown hgr1 (fun q hq => .inr (HOW0.out.2.lt q hq).1)).set (p := ⟨g7, 5, none⟩) (.inl (by simp)) (.slice A1 (lw + 1) c1)
                      have hnw : ∀ q, (Value.slice pA (lb + 1) pc).ownBlock = some q → (Value.slice A1 (lw + 1) c1).ownBlock ≠ some q := fun q hq e => by
                        rcases hat1 q e with h2 | h2
                        · exact HNX.out q hq h2
                        · have := (HOB1.out.2.lt q hq).2; omega
                      rw [← HWO.out] at howw
                      obtain rfl := h.f0 rfl
                      obtain rfl := h.f1 rfl
                      obtain rfl := h.f2 rfl
                      obtain rfl := h.f3 rfl
                      obtain rfl := h.f4 rfl
                      obtain rfl := h.f5 rfl
                      obtain rfl := h.f6 rfl
                      obtain rfl := h.f9 rfl
                      clear h k5 k6 k7 nb7 hgr1 hat1 hown1
                      have H7W := Lib.hid h7w; clear h7w
                      have HKS := Lib.hid hkS; clear hkS
                      have HOBW := Lib.hid hobw; clear hobw
                      have HOWW := Lib.hid howw; clear howw
                      have HKW := Lib.hid hkw; clear hkw
                      have HNW := Lib.hid hnw; clear hnw
                      have KZ7 := Lib.hid kz7; clear kz7
                      go_wp2_with fail
                      go_roundw
                      case rel => exact ⟨i + 1, lb + 1, lw + 1, _, _, by omega, by go_num, H7W.out, HOBW.out, HOWW.out, HNW.out, HKW.out⟩
                      case measure => simp [intOf]; omega
                      
                  · have k2 : (wb1.setCell ⟨g7, 4, none⟩ (.slice pA (lb + 1) pc)).cell? ⟨wo.heap.size, 2, none⟩ = some (.bool false) := by rw [← hsum]; exact h6b.cell 2
                    have hwo : wOf x (i + 1) = wOf x i := by unfold wOf; rw [hsum]; rfl
                    have HY := Lib.hid hy; clear hy
                    have HFT := Lib.hid hft; clear hft
                    have H7Q := Lib.hid h7q; clear h7q
                    have HOB := Lib.hid hob; clear hob
                    have HOW := Lib.hid how; clear how
                    have HWQ := Lib.hid hwq; clear hwq
                    have H6Q := Lib.hid h6q; clear h6q
                    have HRUNB := Lib.hid hrunb; clear hrunb
                    have HOB' := Lib.hid hob'; clear hob'
                    have HGB := Lib.hid hgb; clear hgb
                    have H7B := Lib.hid h7b; clear h7b
                    have H6B := Lib.hid h6b; clear h6b
                    have HOW1 := Lib.hid how1; clear how1
                    have HOB1 := Lib.hid hob1; clear hob1
                    have HKX := Lib.hid hkX; clear hkX
                    have HNX := Lib.hid hnX; clear hnX
                    have HSUM := Lib.hid hsum; clear hsum
                    have HWX := Lib.hid hwX; clear hwX
                    have HWO := Lib.hid hwo; clear hwo
                    go_wp2_with (at_builtin; refine wpList_append_run rfl _ _ _ rfl _ _ rfl rfl _ _ HRUNB.out ?_)
                    go_roundw
                    case rel => exact ⟨i + 1, lb + 1, lw, _, vw, by omega, by go_num, H7B.out, HOB1.out, by rw [HWO.out]; exact HOW1.out, HNX.out, HKX.out⟩
                    case measure => simp [intOf]; omega
                · have hip : isPos y = false := by simp [isPos]; omega
                  rw [hip, if_neg (by simp)] at hft
                  have hwo : wOf x (i + 1) = wOf x i := by
                    unfold wOf
                    by_cases hs : x.sum = true
                    · rw [if_pos hs, if_pos hs]
                      obtain ⟨z, hz, -⟩ := HR.out.wt.drop (k := i) (by have := HI.out.wlen hs; have := HR.out.wt.len; have := HR.out.body.len; omega)
                      rw [posW_take (zp_at hy hz), hip]; simp
                    · rw [if_neg hs, if_neg hs]
                  have hob1 := hob
                  rw [← hft] at hob1
                  have HY := Lib.hid hy; clear hy
                  have HFT := Lib.hid hft; clear hft
                  have H7Q := Lib.hid h7q; clear h7q
                  have HOB := Lib.hid hob; clear hob
                  have HOB1 := Lib.hid hob1; clear hob1
                  have HOW := Lib.hid how; clear how
                  have HWQ := Lib.hid hwq; clear hwq
                  have H6Q := Lib.hid h6q; clear h6q
                  have HNB := Lib.hid hnb; clear hnb
                  have HKQ := Lib.hid hkq; clear hkq
                  have HWO := Lib.hid hwo; clear hwo
                  have HIP := Lib.hid hip; clear hip
                  go_wp2_with fail
                  go_roundw
                  case rel => exact ⟨i + 1, lb, lw, vb, vw, by omega, by go_num, H7Q.out, HOB1.out, by rw [HWO.out]; exact HOW.out, HNB.out, HKQ.out⟩
                  case measure => simp [intOf]; omega
              · obtain rfl : bl = i := by omega
                have hbl := HR.out.body.len
                have hpx : posX x = ⟨false, x.head.take 1, x.sum, x.bound, (x.body.take bl).filter isPos, wOf x bl⟩ := by
                  have t1 : x.body.take bl = x.body := List.take_of_length_le (by omega)
                  have t2 : (zp x).take bl = zp x := List.take_of_length_le (by unfold zp; rw [List.length_zip]; omega)
                  unfold posX wOf
                  rw [t1, t2]
                have hlb : lb ≤ bl := by have := hob.len; have := List.length_filter_le isPos (x.body.take bl); have := List.length_take_le bl x.body; omega
                have hlw : lw ≤ bl := by
                  have h1 := how.len
                  have h2 : (wOf x bl).length ≤ bl := by
                    unfold wOf
                    split
                    · have := posW_len ((zp x).take bl); have := List.length_take_le bl (zp x); omega
                    · simp
                  omega
                have nb6 : ∀ q, vb.ownBlock = some q → W9.heap.size ≤ q := fun q hq => (hob.2.lt q hq).1
                have nw6 : ∀ q, vw.ownBlock = some q → W9.heap.size ≤ q := fun q hq => (how.2.lt q hq).1
                obtain ⟨pA, pc, evb, hsb⟩ := hob.sl (by omega) (fun z hz => HR.out.body.all64 z (List.mem_of_mem_take (List.mem_filter.1 hz).1))
                obtain ⟨qA, qc, evw, hsw⟩ := how.sl (by omega) (fun z hz => by
                  unfold wOf at hz
                  split at hz
                  · obtain ⟨a, ha⟩ := posW_mem hz
                    exact HR.out.wt.all64 z (List.of_mem_zip (List.mem_of_mem_take ha)).2
                  · simp at hz)
                subst evb evw
                have hht : x.head.take 1 = x.head.take mh := by
                  have h1 := HME.out
                  have h2 := HR.out.head.len
                  rcases Nat.eq_zero_or_pos hl with h3 | h3
                  · rw [List.take_of_length_le (by omega), List.take_of_length_le (by omega)]
                  · rw [show mh = 1 from by omega]
                have hrin : RuleIn wq (posX x) hA mh hc pA lb pc qA lw qc := by
                  rw [hpx]
                  exact ⟨by rw [hht]; exact (HR.out.head.take hmh).ext hwq, HR.out.bound, hsb, hsw⟩
                have hM : ∀ q ∈ (g3 :: g4 :: ((Value.slice oA n9 oc).ownBlock.toList ++ v4.ownBlock.toList)), w.heap.size ≤ q ∧ q < X9.heap.size := fun q hq => by
                  simp only [List.mem_cons, List.mem_append, Option.mem_toList] at hq
                  have hz := HO49.out.1
                  rcases hq with h | h | h | h
                  · omega
                  · omega
                  · have h1 := HO3Z.out.lt h; have h2 := HO9X.out.lt h; omega
                  · have := hz.lt q h; omega
                have hX9q : X9.heap.size ≤ wq.heap.size := by omega
                have ho4q := HO49.out.turn (M' := g3 :: g4 :: ((Value.slice oA n9 oc).ownBlock.toList ++ v4.ownBlock.toList)) ((Kept.of_below HB9.out [g7]).trans hkq) (fun q hq => by
                  simp at hq; subst hq
                  exact ⟨.inr hg7, fun e => by have := (HO49.out.1.lt _ e).2; omega⟩) (fun q hq => .inl hq)
                obtain ⟨v4', wd, hrund, hod, hgd, hatd⟩ := appR ho4q.1 (.bool false) (.slice hA mh hc) (.bool x.sum) (.int .i64 x.bound) (.slice pA lb pc) (.slice qA lw qc) (by simp [Value.oneCell']) (by rw [List.length_map]; have := List.length_take_le k p.rules; omega) (by omega) 24
                obtain ⟨dA, dc, ed, -, -⟩ := World.ownsRow.form hod (by omega)
                have n43 : v4.ownBlock ≠ some g3 := fun e => by have := (ho4q.1.lt _ e).1; omega
                have n44 : v4.ownBlock ≠ some g4 := fun e => by have := (ho4q.1.lt _ e).1; omega
                have q3b := (hkq.blk HB3Z.out (by simp; omega))
                have q4b := (hkq.blk HB4Z.out (by simp; omega))
                have q3d := q3b.grown hgd (fun e => n43 e.symm)
                have q4d := q4b.grown hgd (fun e => n44 e.symm)
                have c4 : wq.cell? ⟨g4, 3, none⟩ = some v4 := q4b.cell 3
                have c4d : wd.cell? ⟨g4, 3, none⟩ = some v4 := q4d.cell 3
                have z4d : wd.frozen? ⟨g4, 3, none⟩ = false := q4d.frozen 3
                have hkd : Kept (g3 :: g4 :: ((Value.slice oA n9 oc).ownBlock.toList ++ v4.ownBlock.toList)) wq (wd.setCell ⟨g4, 3, none⟩ v4') := ((Kept.refl _ wq).grown hgd (fun q hq => .inl (by simp [hq]))).set (.inl (by simp)) _
                have off0 : ∀ {A : Option Addr} {l c : Nat} {xs : List Int}, SlIs intR w A l c xs → Off (g3 :: g4 :: ((Value.slice oA n9 oc).ownBlock.toList ++ v4.ownBlock.toList)) A l := fun hs h0 ad e hq => by
                  have h1 := hs.blk_lt h0 e
                  have h2 := hM _ hq
                  omega
                have hsn := ho4q.snoc hrin (off0 (HR.out.head.take hmh)) (fun h0 ad e hq => by
                  subst e
                  have h1 := nb6 _ rfl
                  have h2 := hM _ hq
                  omega) (fun h0 ad e hq => by
                  subst e
                  have h1 := nw6 _ rfl
                  have h2 := hM _ hq
                  omega) (ownsRow_keptS (cs := cs4 ++ [.bool (posX x).choice, .slice hA mh hc, .bool (posX x).sum, .int .i64 (posX x).bound, .slice pA lb pc, .slice qA lw qc]) hod ((Kept.refl [g4] wd).set (p := ⟨g4, 3, none⟩) (.inl (by simp)) v4') (fun q hq hm => by
                    simp at hm; subst hm
                    have := (hod.lt _ hq).1; omega)) hkd (M' := g3 :: g4 :: ((Value.slice oA n9 oc).ownBlock.toList ++ v4'.ownBlock.toList)) (fun q hq => by
                  simp only [List.mem_cons, List.mem_append, Option.mem_toList] at hq ⊢
                  rcases hq with h | h | h | h
                  · exact .inl (.inl h)
                  · exact .inl (.inr (.inl h))
                  · exact .inl (.inr (.inr (.inl h)))
                  · rcases hatd q h with h | h
                    · exact .inl (.inr (.inr (.inr h)))
                    · exact .inr h)
                rw [← HMS4.out] at hsn
                have r3 : Blk (wd.setCell ⟨g4, 3, none⟩ v4') g3 27 (bareC N q3 (.slice oA n9 oc)) := q3d.far (p := ⟨g4, 3, none⟩) (fun e => HNE.out e) v4'
                have r4 : Blk (wd.setCell ⟨g4, 3, none⟩ v4') g4 27 (bareC N q4 v4') := by simpa [bareC] using q4d.set_ 3 v4'
                have rkq : ∀ q ∈ v4.ownBlock.toList, q ∈ [g3, g4] ∨ w2.heap.size ≤ q := fun q hq => by
                  have h1 : v4.ownBlock = some q := by simpa using hq
                  exact .inr (ho4q.1.lt q h1).1
                have rk : Kept [g3, g4] w2 (wd.setCell ⟨g4, 3, none⟩ v4') := ((HK9Z.out.then hkq (fun q hq => by simp at hq; exact .inr (by omega))).then ((Kept.refl v4.ownBlock.toList wq).grown hgd (fun q hq => .inl (by simp [hq]))) rkq).set (.inl (by simp)) _
                have ro3 : OwnB ruleR 32 w w2.heap.size (wd.setCell ⟨g4, 3, none⟩ v4') (.slice oA n9 oc) ((p.rules.take (k + 1)).map qR) := ((HO3Z.out.kept hkq (fun q hq => by
                  simp at hq; subst hq
                  exact ⟨by omega, fun e => by have := HO9X.out.lt e; omega⟩)).kept (grown_kept hgd) (fun q hq => by
                  have h1 : v4.ownBlock = some q := by simpa using hq
                  exact ⟨by have := (ho4q.1.lt q h1).1; omega, fun e => HNV9.out q e h1⟩)).set hw4 hl4 v4'
                have rn : ∀ q, (Value.slice oA n9 oc).ownBlock = some q → v4'.ownBlock ≠ some q := fun q hq e => by
                  rcases hatd q e with h | h
                  · exact HNV9.out q hq h
                  · have := HO9X.out.lt hq; omega
                subst ed
                generalize ((p.rules.take k).map posX).length + 1 = n4 at *
                clear n43 n44 q3b q4b q3d q4d hM rkq off0
                have H7Q := Lib.hid h7q; clear h7q
                have HOB := Lib.hid hob; clear hob
                have HOW := Lib.hid how; clear how
                have HNB := Lib.hid hnb; clear hnb
                have HKQ := Lib.hid hkq; clear hkq
                have HWQ := Lib.hid hwq; clear hwq
                have H6Q := Lib.hid h6q; clear h6q
                have HPX := Lib.hid hpx; clear hpx
                have HHT := Lib.hid hht; clear hht
                have HRIN := Lib.hid hrin; clear hrin
                have HSB := Lib.hid hsb; clear hsb
                have HSW := Lib.hid hsw; clear hsw
                have HO4Q := Lib.hid ho4q; clear ho4q
                have HRUND := Lib.hid hrund; clear hrund
                have HOD := Lib.hid hod; clear hod
                have HGD := Lib.hid hgd; clear hgd
                have HKD := Lib.hid hkd; clear hkd
                have HSN := Lib.hid hsn; clear hsn
                have R3 := Lib.hid r3; clear r3
                have R4 := Lib.hid r4; clear r4
                have RK := Lib.hid rk; clear rk
                have RO3 := Lib.hid ro3; clear ro3
                have RN := Lib.hid rn; clear rn
                have NB6 := Lib.hid nb6; clear nb6
                have NW6 := Lib.hid nw6; clear nw6
                have HATD := Lib.hid hatd; clear hatd
                have k0 := H7Q.out.cell 0
                have k1 := H7Q.out.cell 1
                have k2 := H7Q.out.cell 2
                have k3 := H7Q.out.cell 3
                have k4 := H7Q.out.cell 4
                have k5 := H7Q.out.cell 5
                go_wp2_with (at_builtin; refine wpList_append_run rfl _ _ _ rfl _ _ rfl rfl _ _ HRUND.out ?_)
                go_roundw
                case rel => exact ⟨k + 1, _, _, _, by omega, by go_num, R3.out, R4.out, RK.out, RO3.out, HSN.out, RN.out⟩
                case measure => simp [intOf]; omega
            
        · obtain rfl : rl = k := by omega
          have hlr := HP.out.rules.len
          rw [List.take_of_length_le (by omega)] at ho3 ho4
          obtain ⟨v3A, v3c, ev3, hs3⟩ := ho3.sl (by rw [List.length_map]; omega)
          obtain ⟨v4A, v4c, ev4, hs4⟩ := ho4.sl (by rw [List.length_map]; omega)
          subst ev3 ev4
          have hN3w := hkp.blk HN3.out (by simp; exact ⟨blk_ty HN3.out HQ3.out (by decide), blk_ty HN3.out HQ4.out (by decide)⟩)
          have hN4w := hkp.blk HN4'.out (by simp; exact ⟨blk_ty HN4'.out HQ3.out (by decide), blk_ty HN4'.out HQ4.out (by decide)⟩)
          have hq := bare_in hN3w hN4 hs3
          have hpp := bare_in hN4w hN4 hs4
          have hbw := ho3.below
          have hpx := hkp.blk HX2.out (by simp; omega)
          generalize (p.rules.map qR).length = n3 at *
          generalize (p.rules.map posX).length = n4 at *
          have hp4 : SlIs ruleR wo v4A n4 v4c (p.rules.map posX) := hs4
          have HQ := Lib.hid hq
          have HBWo := Lib.hid hbw
          have HPX := Lib.hid hpx
          have HB3 := Lib.hid hb3
          have HB4 := Lib.hid hb4
          have HPP := Lib.hid hpp
          have HS4 := Lib.hid hp4
          clear hb3 hb4 hkp ho3 ho4 hnv hs3 hs4 hN3w hN4w hq hpp hbw hpx hp4 HQ3 HQ4 HN3 HN4' HBE HX2 hlr
          have c0 := HB3.out.cell 0
          have c1 := HB3.out.cell 1
          have c2 := HB3.out.cell 2
          have c3 := HB3.out.cell 3
          have c4 := HB3.out.cell 4
          simp only [bareC] at c0 c1 c2 c3 c4
          have hll : g3 < wo.heap.size := HB3.out.lt
          have hnN : p.n = (N : Int) := HN.out
          have hqv : validE (withP (N : Int) (p.rules.map qR)) = 0 := by have := L.out.qv; unfold qP at this; rwa [hnN] at this
          have hqs : SmallP (withP (N : Int) (p.rules.map qR)) := by have := L.out.qs; unfold qP at this; rwa [hnN] at this
          have hpv : validE (withP (N : Int) (p.rules.map posX)) = 0 := by have := L.out.pv; unfold pP at this; rwa [hnN] at this
          have hps : SmallP (withP (N : Int) (p.rules.map posX)) := by have := L.out.ps; unfold pP at this; rwa [hnN] at this
          have eq1 : allL (withP (N : Int) (p.rules.map qR)) = allL (qP p) := by unfold qP; rw [hnN]
          have ep1 : allL (withP (N : Int) (p.rules.map posX)) = allL (pP p) := by unfold pP; rw [hnN]
          have em1 : ∀ m, modelB (withP (N : Int) (p.rules.map posX)) m = modelB (pP p) m := fun m => by unfold pP; rw [hnN]
          have ec1 : ∀ m, checkE (withP (N : Int) (p.rules.map posX)) m = checkE (pP p) m := fun m => by unfold pP; rw [hnN]
          have el1 : leastL (p.rules.map posX) N = leastL (p.rules.map posX) p.n.toNat := by rw [hnN]; rfl
          have hpd : defB (N : Int) (p.rules.map posX) = true := by have := L.out.pd; rwa [hnN] at this
          clear hnN
          generalize leastL (p.rules.map posX) p.n.toNat = least at *
          generalize hall : allL (qP p) = all at *
          generalize hone : allL (pP p) = one at *
          generalize hmd : modelB (pP p) least = md at *
          have HQV := Lib.hid hqv; clear hqv
          have HQS := Lib.hid hqs; clear hqs
          have HPV := Lib.hid hpv; clear hpv
          have HPS := Lib.hid hps; clear hps
          have EQ1 := Lib.hid eq1; clear eq1
          have EP1 := Lib.hid ep1; clear ep1
          have EM1 := Lib.hid em1; clear em1
          have EC1 := Lib.hid ec1; clear ec1
          have EL1 := Lib.hid el1; clear el1
          have HPD := Lib.hid hpd; clear hpd
          have HALL := Lib.hid hall; clear hall
          have HONE := Lib.hid hone; clear hone
          have HMD := Lib.hid hmd; clear hmd
          go_wp2_with fail
          go_fit (all_any (withP (N : Int) (p.rules.map qR)) _ _ _ _ _ _ _ _ _ _ _ _ _ HQ.out HQV.out HQS.out); rintro e w5 ⟨A, l, c, rfl, hsl, hb⟩
          rw [EQ1.out] at hsl
          replace HPX := Lib.hid (HPX.out.bel hb)
          replace HB4 := Lib.hid (HB4.out.bel hb)
          replace HPP := Lib.hid (HPP.out.ext hb)
          replace HS4 := Lib.hid (HS4.out.ext hb)
          replace HBWo := Lib.hid (bel_trans HBWo.out hb)
          clear hb HB3 HQ c0 c1 c2 c3 c4
          have hll5 := hsl.len
          have hlc := hsl.cap
          have hlm := hsl.max
          have HSL := Lib.hid hsl; clear hsl
          have HLL5 := Lib.hid hll5; clear hll5
          go_wp2_with fail
          go_loop [103] (fun t => ∃ (a : Nat), a ≤ l ∧ t = .int .i64 (a : Int)) (fun t => l - (intOf t).toNat)
          case atStart => exact ⟨0, Nat.zero_le _, rfl⟩
          case round =>
            obtain ⟨a, ha, rfl⟩ := hrel
            by_cases hla : a < l
            · obtain ⟨ma, hma, -⟩ := HSL.out.drop hla
              obtain ⟨ab, ao, aA, al, ac, rfl, hab, cma, sma⟩ := HSL.out.set hma
              have a0 : (0 : Int) ≤ (a : Int) := by omega
              have a1 : (a : Int) < (l : Int) := by omega
              have HMA := Lib.hid hma; clear hma
              have SMA := Lib.hid sma; clear sma
              go_wp2_with fail
              go_loop [109] (fun t => ∃ (b : Nat), b ≤ l ∧ t = .int .i64 (b : Int)) (fun t => l - (intOf t).toNat)
              case atStart => exact ⟨0, Nat.zero_le _, rfl⟩
              case round =>
                obtain ⟨b, hb, rfl⟩ := hrel
                by_cases hlb : b < l
                · obtain ⟨mb, hmb, -⟩ := HSL.out.drop hlb
                  obtain ⟨bb, bo, bA, bl, bc, e, hbb, cmb, smb⟩ := HSL.out.set hmb
                  cases e
                  have b0 : (0 : Int) ≤ (b : Int) := by omega
                  have b1 : (b : Int) < (l : Int) := by omega
                  by_cases hlt2 : al < bl
                  · have hin := L.out.anti ma (List.mem_of_getElem? HMA.out) mb (List.mem_of_getElem? hmb) (by have := SMA.out.len; have := smb.len; omega)
                    have cI := in_any aA al ac bA bl bc ma mb w5 SMA.out smb
                    rw [hin] at cI
                    have z1 : (al : Int) < (bl : Int) := by omega
                    have HMB := Lib.hid hmb; clear hmb
                    have SMB := Lib.hid smb; clear smb
                    have HIN := Lib.hid hin; clear hin
                    have CI := Lib.hid cI; clear cI
                    go_wp2_with fail
                    go_fit CI.out; rintro e w' ⟨rfl, rfl⟩
                    go_wp2_with fail
                    go_round
                    case rel => exact ⟨b + 1, by omega, by go_num⟩
                    case measure => simp [intOf]; omega
                  · have z1 : ¬ (al : Int) < (bl : Int) := by omega
                    have HMB := Lib.hid hmb; clear hmb
                    have SMB := Lib.hid smb; clear smb
                    go_wp2_with fail
                    go_round
                    case rel => exact ⟨b + 1, by omega, by go_num⟩
                    case measure => simp [intOf]; omega
                · go_wp2_with fail
                  go_round
                  case rel => exact ⟨a + 1, by omega, by go_num⟩
                  case measure => simp [intOf]; omega
            · have d0 : w5.cell? ⟨g4, 0, none⟩ = some (.int .i64 (N : Int)) := HB4.out.cell 0
              have d1 : w5.cell? ⟨g4, 1, none⟩ = some (.slice (some ⟨q4, 0, none⟩) N N) := HB4.out.cell 1
              have d2 : w5.cell? ⟨g4, 2, none⟩ = some (.slice none 0 0) := HB4.out.cell 2
              have d3 : w5.cell? ⟨g4, 3, none⟩ = some (.slice v4A n4 v4c) := HB4.out.cell 3
              have d4 : w5.cell? ⟨g4, 4, none⟩ = some (.slice none 0 0) := HB4.out.cell 4
              go_wp2_with fail
              go_fit (all_any (withP (N : Int) (p.rules.map posX)) _ _ _ _ _ _ _ _ _ _ _ _ _ HPP.out HPV.out HPS.out); rintro e w6 ⟨oA, ol, oc, rfl, hso, hb⟩
              rw [EP1.out] at hso
              replace HPX := Lib.hid (HPX.out.bel hb)
              replace HB4 := Lib.hid (HB4.out.bel hb)
              replace HPP := Lib.hid (HPP.out.ext hb)
              replace HS4 := Lib.hid (HS4.out.ext hb)
              replace HBWo := Lib.hid (bel_trans HBWo.out hb)
              clear hb HSL d0 d1 d2 d3 d4
              have d3 : w6.cell? ⟨g4, 3, none⟩ = some (.slice v4A n4 v4c) := HB4.out.cell 3
              have e0 : w6.cell? ⟨w.heap.size, 0, none⟩ = some (.int .i64 (N : Int)) := HPX.out.cell 0
              have HSO := Lib.hid hso; clear hso
              go_wp2_with fail
              go_fit (least_any v4A n4 v4c (p.rules.map posX) N _ HS4.out HPD.out); rintro e w7 ⟨eA, el, ec, rfl, hle, hb⟩
              rw [EL1.out] at hle
              replace HB4 := Lib.hid (HB4.out.bel hb)
              replace HPP := Lib.hid (HPP.out.ext hb)
              replace HBWo := Lib.hid (bel_trans HBWo.out hb)
              replace HSO := Lib.hid (HSO.out.ext hb)
              clear hb HPX HS4 d3 e0
              have d0 : w7.cell? ⟨g4, 0, none⟩ = some (.int .i64 (N : Int)) := HB4.out.cell 0
              have d1 : w7.cell? ⟨g4, 1, none⟩ = some (.slice (some ⟨q4, 0, none⟩) N N) := HB4.out.cell 1
              have d2 : w7.cell? ⟨g4, 2, none⟩ = some (.slice none 0 0) := HB4.out.cell 2
              have d3 : w7.cell? ⟨g4, 3, none⟩ = some (.slice v4A n4 v4c) := HB4.out.cell 3
              have d4 : w7.cell? ⟨g4, 4, none⟩ = some (.slice none 0 0) := HB4.out.cell 4
              have HLE := Lib.hid hle; clear hle
              go_wp2_with fail
              go_fit (models_ok (withP (N : Int) (p.rules.map posX)) _ _ _ _ _ _ _ _ _ _ _ _ eA el ec least _ HPP.out HLE.out (by rw [EC1.out]; exact L.out.pc)); rintro e w8 ⟨rfl, hb⟩
              rw [EM1.out, HMD.out]
              replace HBWo := Lib.hid (bel_trans HBWo.out hb)
              replace HSO := Lib.hid (HSO.out.ext hb)
              replace HLE := Lib.hid (HLE.out.ext hb)
              clear hb HPP HB4 d0 d1 d2 d3 d4
              have hol := HSO.out.len
              have hoc := HSO.out.cap
              have hom := HSO.out.max
              have hon := L.out.one
              cases md with
              | false =>
                simp only [Bool.false_eq_true, if_false] at hon
                have hl0 : ol = 0 := by rw [hol, hon]; rfl
                subst hl0
                have HOL := Lib.hid hol; clear hol
                have HON := Lib.hid hon; clear hon
                go_wp2_with fail
                go_fit (CA.out _); rintro e wy ⟨rfl, hb⟩
                have HBZ := Lib.hid (bel_trans HBWo.out hb)
                clear hb
                go_wp2_with fail
                go_ret
                exact ⟨rfl, HBZ.out⟩
              | true =>
                simp only [if_true] at hon
                have hl1 : ol = 1 := by rw [hol, hon]; rfl
                subst hl1
                have h0 : one[0]? = some least := by rw [hon]; rfl
                obtain ⟨ob, oo, xA, xl, xc, rfl, _, cx, sx⟩ := HSO.out.set h0
                have z2 : oo + 0 = oo := rfl
                rw [z2] at cx
                have HOL := Lib.hid hol; clear hol
                have HON := Lib.hid hon; clear hon
                have H0 := Lib.hid h0; clear h0
                have SX := Lib.hid sx; clear sx
                go_wp2_with fail
                go_fit (lawInts_any xA xl xc eA el ec least least _ SX.out HLE.out); rintro e w9 ⟨rfl, hb⟩
                rw [show decide (least = least) = true from by simp]
                have HBY := Lib.hid (bel_trans HBWo.out hb)
                clear hb
                go_wp2_with fail
                go_fit (CA.out _); rintro e wy ⟨rfl, hb⟩
                have HBZ := Lib.hid (bel_trans HBY.out hb)
                clear hb
                go_wp2_with fail
                go_ret
                exact ⟨rfl, HBZ.out⟩
      
end Go.Proofs.Ytfopcpmckplemaa

/- ostlerlaw21.reach, the walk. -/
import Derived.Test.YtbfbkpoakmnlpaaRea
import Derived.Laws.Bits64b
namespace Go.Proofs.Ytbfbkpoakmnlpaa
open Go.RowKit

theorem edge_pos {p : GProg} (hi : ProgIs p) {a b : Int} (h : EdgeP p a b) : 1 ≤ a := by
  obtain ⟨r, hr, ha, -, -⟩ := h
  exact (inc_mem (hi.rules r hr).head a ha).1
theorem or_val {a v : Nat} (ha : a < 8192) (hv : v < 13) : bits .or .u64 (a : Int) ((2 : Int) ^ v) = ((a ||| 2 ^ v : Nat) : Int) := by
  have h2 : 2 ^ v < 18446744073709551616 := Nat.lt_of_lt_of_le (Nat.pow_lt_pow_right (by omega) hv) (by decide)
  have h := bits_or_u64_nat a (2 ^ v) (by omega) h2
  rw [← h]; simp
theorem eFold_low : ∀ (es : List (Int × Int)) (S : List Nat), (∀ e ∈ es, 0 ≤ e.2 ∧ e.2 < 13) → Low 13 S → Low 13 (es.foldl eStep S)
  | [], _, _, h => h
  | e :: es, S, he, h => by
    rw [List.foldl_cons]
    have h0 := he e (List.mem_cons_self ..)
    exact eFold_low es _ (fun k hk => he k (List.mem_cons_of_mem _ hk)) (h.eStep (by omega) h0.1)
theorem wrap_pow {v : Nat} (hv : v < 13) : IntKind.u64.wrap ((2 : Int) ^ v) = ((2 ^ v : Nat) : Int) := by
  have : ∀ v : Fin 13, IntKind.u64.wrap ((2 : Int) ^ v.val) = ((2 ^ v.val : Nat) : Int) := by decide
  exact this ⟨v, hv⟩
theorem wB_low {S : List Nat} (h : Low 13 S) (a b : Nat) : Low 13 (wB S a b) := h.wB a b
theorem wRow_low {S : List Nat} (h : Low 13 S) (a : Nat) : ∀ k, Low 13 (wRow a S k)
  | 0 => h
  | k + 1 => (wRow_low h a k).wB a k
theorem wAll_low {S : List Nat} (h : Low 13 S) (n : Nat) : ∀ k, Low 13 (wAll n S k)
  | 0 => h
  | k + 1 => wRow_low (wAll_low h n k) k n
theorem wRnd_low {S : List Nat} (h : Low 13 S) (n : Nat) : ∀ k, Low 13 (wRnd n S k)
  | 0 => h
  | k + 1 => wAll_low (wRnd_low h n k) n n
theorem rchL_len (p : GProg) : (rchL p).length = p.n.toNat + 1 := by unfold rchL; rw [wRnd_len, eBits_len]
theorem rchL_low {p : GProg} (hi : ProgIs p) (h12 : p.n ≤ 12) : Low 13 (rchL p) := by
  have h0 : 0 ≤ p.n := (namedB_n hi.named).1
  unfold rchL
  exact wRnd_low (eFold_low _ _ (fun e he => by
    have := edge_rng (of_ok hi h0 (namedB_n hi.named).2) (of_len p) e he
    omega) (Low.zero 13 _)) _ _

theorem and_bit {a b : Nat} (ha : a < 8192) : bits .and .u64 ((a : Int) / 2 ^ b) 1 = (((a.testBit b).toNat : Nat) : Int) := by
  have h1 : (a : Int) / 2 ^ b = ((a / 2 ^ b : Nat) : Int) := by simp
  have h2 : a / 2 ^ b < 18446744073709551616 := Nat.lt_of_le_of_lt (Nat.div_le_self _ _) (by omega)
  rw [h1, show (1 : Int) = ((1 : Nat) : Int) from rfl, bits_and_u64_nat _ 1 h2 (by decide), Nat.and_one_is_mod, Nat.testBit_eq_decide_div_mod_eq]
  congr 1
  by_cases h : a / 2 ^ b % 2 = 1
  · simp [h]
  · rw [show a / 2 ^ b % 2 = 0 by omega]; simp
theorem and_one {a b : Nat} (ha : a < 8192) : (bits .and .u64 ((a : Int) / 2 ^ b) 1 == 1) = a.testBit b := by
  rw [and_bit ha]
  cases a.testBit b <;> decide
theorem and_zero {a b : Nat} (ha : a < 8192) : (bits .and .u64 ((a : Int) / 2 ^ b) 1 == 0) = !a.testBit b := by
  rw [and_bit ha]
  cases a.testBit b <;> decide
theorem or_two {a b : Nat} (ha : a < 8192) (hb : b < 8192) : bits .or .u64 (a : Int) (b : Int) = ((a ||| b : Nat) : Int) := bits_or_u64_nat a b (by omega) (by omega)
set_option maxRecDepth 100000 in
set_option maxHeartbeats 4000000 in
theorem reach_any (p : GProg) (nA : Option Addr) (nl nc : Nat) (sA : Option Addr) (sl sc : Nat) (rA : Option Addr) (rl rc : Nat) (mA : Option Addr) (ml mc : Nat) (w : World) (hp : ProgIn w p nA nl nc sA sl sc rA rl rc mA ml mc) (hv : validE p = 0) (h12 : p.n ≤ 12) :
    Calls Try.prog 27 #[.agg #[.int .i64 p.n, .slice nA nl nc, .slice sA sl sc, .slice rA rl rc, .slice mA ml mc]] w fun e w' => ∃ ub, e = .returned (.slice (some ⟨ub, 0, none⟩) (p.n.toNat + 1) (p.n.toNat + 1)) ∧ Blk w' ub 50 (u64C (rchL p)) ∧ w.heap.size ≤ ub ∧ Below w.heap.size w w' := by
  have hi := validE_is hv
  have h0 : 0 ≤ p.n := (namedB_n hi.named).1
  obtain ⟨N, hN⟩ : ∃ N : Nat, N = p.n.toNat := ⟨_, rfl⟩
  have hNn : p.n = (N : Int) := by omega
  have hN12 : N ≤ 12 := by omega
  rw [← hN]
  have hmk : ∀ W : World, (Instr.makeSlice 48 (.int .i64 ((N : Int) + 1)) (.int .i64 ((N : Int) + 1))).run Try.prog W = .ok (.slice (some ⟨W.heap.size, 0, none⟩) (N + 1) (N + 1)) (W.alloc (.cells (u64C (List.replicate (N + 1) 0)) 50)) := fun W => by
    have h := run_make_row' (P := Try.prog) 48 50 (.int .u64 0) 8 Try.underlying48 (by kernel_rfl) rfl .i64 .i64 (N + 1) (by omega) (by omega) W
    have e : madeCells #[Value.int .u64 0] (N + 1) = u64C (List.replicate (N + 1) 0) := by
      unfold madeCells u64C
      apply Array.ext
      · simp
      · intro i h1 h2
        simp [Nat.mod_one]
    rw [e] at h
    simpa using h
  have cE := fun W (hb : Below w.heap.size w W) => edges_any p nA nl nc sA sl sc rA rl rc mA ml mc W (hp.ext hb) hv
  have hx0 := Blk.new w 27 #[.int .i64 p.n, .slice nA nl nc, .slice sA sl sc, .slice rA rl rc, .slice mA ml mc]
  rw [hNn] at cE hx0
  rw [hNn]
  have HP := Lib.hid hp; clear hp
  have HV := Lib.hid hv; clear hv
  have HI := Lib.hid hi; clear hi
  have CE := Lib.hid cE; clear cE
  have HX0 := Lib.hid hx0; clear hx0
  have HN := Lib.hid hN; clear hN
  go_enter Try.func27, Try.ntmps27
  go_wp2_with fail
  have hbw := bel_trans (bel_alloc w (.cells #[.int .i64 (N : Int), .slice nA nl nc, .slice sA sl sc, .slice rA rl rc, .slice mA ml mc] 27)) (bel_alloc _ (.cells (u64C (List.replicate (N + 1) 0)) 50))
  have hx1 := HX0.out.alloc (.cells (u64C (List.replicate (N + 1) 0)) 50)
  have hu1 : Blk ((w.alloc (.cells #[.int .i64 (N : Int), .slice nA nl nc, .slice sA sl sc, .slice rA rl rc, .slice mA ml mc] 27)).alloc (.cells (u64C (List.replicate (N + 1) 0)) 50)) (w.heap.size + 1) 50 (u64C (List.replicate (N + 1) 0)) := blk_new (by simp) _ _
  go_fit (CE.out _ hbw); rintro e w2 ⟨eA, el, ec, rfl, hE, fE, hb⟩
  have hx2 := hx1.bel hb
  have hu2 := hu1.bel hb
  have hw2 := bel_trans hbw hb
  clear hbw hx1 hu1 hb
  have hec := hE.cap
  have hem := hE.max
  have hel := hE.len
  have hoE : Off [w.heap.size + 1] eA el := fE.off (fun k hk => by simp at hk; simp; omega)
  clear fE
  have hzu := hu2.lt
  have hg := of_ok HI.out h0 (by omega)
  have HE := Lib.hid hE; clear hE
  have HX2 := Lib.hid hx2; clear hx2
  have HU2 := Lib.hid hu2; clear hu2
  have HW2 := Lib.hid hw2; clear hw2
  have HEL := Lib.hid hel; clear hel
  have HOE := Lib.hid hoE; clear hoE
  have HG := Lib.hid hg; clear hg
  go_wp2_with fail
  go_loopw [2, 21] (fun o t wr => ∃ k : Nat, o = .slice none 0 0 ∧ k ≤ el ∧ t = .int .i64 (k : Int) ∧ Blk wr (w.heap.size + 1) 50 (u64C (((edgeL p).take k).foldl eStep (List.replicate (N + 1) 0))) ∧ Kept [w.heap.size + 1] w2 wr) (fun _ t _ => el - (intOf t).toNat)
  case atStart => exact ⟨0, rfl, Nat.zero_le _, rfl, HU2.out, Kept.refl _ _⟩
  case round =>
    obtain ⟨k, rfl, hk, rfl, hB, hK⟩ := hrel
    obtain ⟨w3, rfl⟩ : ∃ w3 : World, w3 = wr := ⟨_, rfl⟩
    have hE3 := HE.out.keptR hK HOE.out (fun _ _ _ h => h)
    have hx3 := hK.blk HX2.out (by simp)
    by_cases hlt : k < el
    · obtain ⟨x, hx, hd⟩ := hE3.drop hlt
      obtain ⟨b, off, rfl, _, f0, f1, g1, g2⟩ := hE3.pair hx
      have hrg := edge_rng HG.out (of_len p) x (List.mem_of_getElem? hx)
      obtain ⟨x1, x2⟩ := x
      simp only at f0 f1 g1 g2 hrg
      have hx1' : 1 ≤ x1 := by
        have h2 := (edgeL_mem x1 x2).1 (List.mem_of_getElem? hx)
        exact ((of_edge h0 h2.2.1 (by omega)).1 h2.1) |> fun h => edge_pos HI.out h
      obtain ⟨u, rfl⟩ : ∃ u : Nat, x1 = (u : Int) := ⟨x1.toNat, by omega⟩
      obtain ⟨v, rfl⟩ : ∃ v : Nat, x2 = (v : Int) := ⟨x2.toNat, by omega⟩
      rw [← HN.out] at hrg
      have hup : ((edgeL p).take (k + 1)).foldl eStep (List.replicate (N + 1) 0) = eStep (((edgeL p).take k).foldl eStep (List.replicate (N + 1) 0)) ((u : Int), (v : Int)) := by rw [take_snoc' hx, List.foldl_append]; rfl
      have hlen : (((edgeL p).take k).foldl eStep (List.replicate (N + 1) 0)).length = N + 1 := by rw [eFold_len, List.length_replicate]
      have hlow : nthN (((edgeL p).take k).foldl eStep (List.replicate (N + 1) 0)) u < 8192 := eFold_low _ _ (fun e he => by
        have := edge_rng HG.out (of_len p) e (List.mem_of_mem_take he)
        omega) (Low.zero 13 _) u
      generalize ((edgeL p).take k).foldl eStep (List.replicate (N + 1) 0) = Q at *
      have k0 : (0 : Int) ≤ (k : Int) := by omega
      have k1 : (k : Int) < (el : Int) := by omega
      have u1 : (1 : Int) ≤ (u : Int) := hx1'
      have u2 : (u : Int) ≤ (N : Int) := by omega
      have v1 : (1 : Int) ≤ (v : Int) := by omega
      have v2 : (v : Int) ≤ (N : Int) := by omega
      have n0 : w3.cell? ⟨w.heap.size, 0, none⟩ = some (.int .i64 (N : Int)) := hx3.cell 0
      have n5 := hx3.lt
      clear hx1' hrg g1 g2
      have HB := Lib.hid hB; clear hB
      have HK := Lib.hid hK; clear hK
      have HE3 := Lib.hid hE3; clear hE3
      have HX3 := Lib.hid hx3; clear hx3
      have HX := Lib.hid hx; clear hx
      have HD := Lib.hid hd; clear hd
      have HUP := Lib.hid hup; clear hup
      have HLEN := Lib.hid hlen; clear hlen
      have t1 : decide ((u : Int) < 1) = false := decide_eq_false (by omega)
      have t2 : decide (N < u) = false := decide_eq_false (by omega)
      have t3 : decide ((v : Int) < 1) = false := decide_eq_false (by omega)
      have t4 : decide (N < v) = false := decide_eq_false (by omega)
      have hX4 := Blk.new w3 51 #[.int .i64 (u : Int), .int .i64 (v : Int)]
      have hB4 := HB.out.alloc (.cells #[.int .i64 (u : Int), .int .i64 (v : Int)] 51)
      have hlb := HB.out.lt
      have hll := HLEN.out
      have u0 : (0 : Int) ≤ (u : Int) := by omega
      have u3 : (u : Int) < (N : Int) + 1 := by omega
      have HX4 := Lib.hid hX4; clear hX4
      have HB4 := Lib.hid hB4; clear hB4
      have T1 := Lib.hid t1; clear t1
      have T2 := Lib.hid t2; clear t2
      have T3 := Lib.hid t3; clear t3
      have T4 := Lib.hid t4; clear t4
      have HLOW := Lib.hid hlow; clear hlow
      go_upto_region 8 with fail
      simp only [T1.out, T2.out, T3.out, T4.out, Bool.or_false]
      have hK4 := HK.out.bel (bel_alloc w3 (.cells #[.int .i64 (u : Int), .int .i64 (v : Int)] 51))
      have HK4 := Lib.hid hK4; clear hK4
      generalize w3.alloc (.cells #[.int .i64 (u : Int), .int .i64 (v : Int)] 51) = w4 at *
      refine wp_region_inv (fun listed a' w' => ∃ (b0 b1 b2 b3 b4 b5 b6 b7 b8 b9 b10 : Bool) (u47 u48 u49 u50 u51 u52 u53 u54 u55 u56 : Value), listed = #[b0, b1, b2, b3, b4, b5, b6, b7, b8, b9, b10] ∧ a' = { tmps := #[.agg #[.int .i64 (N : Int), .slice nA nl nc, .slice sA sl sc, .slice rA rl rc, .slice mA ml mc], .pointer (some ⟨w.heap.size, 0, none⟩), .slice none 0 0, .slice (some ⟨w.heap.size + 1, 0, none⟩) (N + 1) (N + 1), .slice (some ⟨b, off, none⟩) el ec, .int .i64 0, undef, .pointer (some ⟨w3.heap.size, 0, none⟩), undef, undef, .pointer (some ⟨w.heap.size, 0, none⟩), .int .i64 (N : Int), .int .i64 ((N : Int) + 1), .slice (some ⟨w.heap.size + 1, 0, none⟩) (N + 1) (N + 1), Value.tuple #[.slice (some ⟨b, off, none⟩) el ec, .int .i64 0], .agg #[.int .i64 (N : Int), .slice nA nl nc, .slice sA sl sc, .slice rA rl rc, .slice mA ml mc], Value.tuple #[.slice (some ⟨b, off, none⟩) el ec, .int .i64 0], .slice (some ⟨b, off, none⟩) el ec, .int .i64 0, .slice (some ⟨b, off, none⟩) el ec, .int .i64 (el : Int), .int .i64 (k : Int), .bool true, .pointer (some ⟨b, off + k * 2, none⟩), .agg #[.int .i64 (u : Int), .int .i64 (v : Int)], .pointer (some ⟨w3.heap.size, 0, none⟩), .int .i64 (u : Int), .bool false, .bool false, .pointer (some ⟨w3.heap.size, 0, none⟩), .int .i64 (u : Int), .pointer (some ⟨w.heap.size, 0, none⟩), .int .i64 (N : Int), .bool false, .bool false, .bool false, .pointer (some ⟨w3.heap.size, 1, none⟩), .int .i64 (v : Int), .bool false, .bool false, .bool false, .pointer (some ⟨w3.heap.size, 1, none⟩), .int .i64 (v : Int), .pointer (some ⟨w.heap.size, 0, none⟩), .int .i64 (N : Int), .bool false, .bool false, u47, u48, u49, u50, u51, u52, u53, u54, u55, u56, u57, undef, undef, undef, undef, undef, undef, undef, undef, undef, undef, undef, undef, undef, undef, undef, undef, undef, undef, undef, undef, undef, undef, undef, undef, undef, undef, undef, undef, undef, undef, undef, undef, undef, undef, undef, undef], defers := [] } ∧ (Kept [w.heap.size + 1] w4 w') ∧ (Blk w' w3.heap.size 51 #[.int .i64 (u : Int), .int .i64 (v : Int)]) ∧ (b10 = false → Blk w' (w.heap.size + 1) 50 (u64C Q)) ∧ (b10 = true → Blk w' (w.heap.size + 1) 50 (u64C (Q.set u (nthN Q u ||| 2 ^ v)))) ∧ (b0 = true → u47 = .slice (some ⟨w.heap.size + 1, 0, none⟩) (N + 1) (N + 1)) ∧ (b1 = true → u48 = .pointer (some ⟨w3.heap.size, 0, none⟩)) ∧ (b2 = true → u49 = .int .i64 (u : Int)) ∧ (b3 = true → u50 = .pointer (some ⟨w.heap.size + 1, u, none⟩)) ∧ (b4 = true → u51 = .int .u64 (nthN Q u : Int)) ∧ (b5 = true → u52 = .pointer (some ⟨w3.heap.size, 1, none⟩)) ∧ (b6 = true → u53 = .int .i64 (v : Int)) ∧ (b7 = true → u54 = .int .u64 ((2 ^ v : Nat) : Int)) ∧ (b8 = true → u55 = .int .u64 ((nthN Q u ||| 2 ^ v : Nat) : Int)) ∧ (b9 = true → u56 = .pointer (some ⟨w.heap.size + 1, u, none⟩)) ∧ (b10 = true → b8 = true ∧ b9 = true) ∧ (b8 = true → b4 = true)) (by kernel_rfl) ?start ?step ?_
      case start => exact ⟨false, false, false, false, false, false, false, false, false, false, false, _, _, _, _, _, _, _, _, _, _, rfl, rfl, (Kept.refl _ _).drew, HX4.out.drew, (fun _ => HB4.out.drew), (by simp), (by simp), (by simp), (by simp), (by simp), (by simp), (by simp), (by simp), (by simp), (by simp), (by simp), (by simp), (by simp)⟩
      case step =>
        rintro listed a' w' i o ⟨b0, b1, b2, b3, b4, b5, b6, b7, b8, b9, b10, u47, u48, u49, u50, u51, u52, u53, u54, u55, u56, rfl, rfl, hk0, hX, fO, fE, f0, f1, f2, f3, f4, f5, f6, f7, f8, f9, c10, c8⟩ ho hli hd K hK
        match i, ho, hli, hd with
        | 0, ho, hli, hd =>
          obtain rfl := Option.some.inj ho
          obtain rfl : b0 = false := hli
          have HH := Lib.hid (And.intro c10 c8)
          clear c10 c8
          go_simp
          exact hK _ _ ⟨_, _, _, _, _, _, _, _, _, _, _, _, _, _, _, _, _, _, _, _, _, rfl, rfl, hk0, hX, fO, fE, (fun _ => rfl), f1, f2, f3, f4, f5, f6, f7, f8, f9, HH.out.1, HH.out.2⟩
        | 1, ho, hli, hd =>
          obtain rfl := Option.some.inj ho
          obtain rfl : b1 = false := hli
          have HH := Lib.hid (And.intro c10 c8)
          clear c10 c8
          go_simp
          exact hK _ _ ⟨_, _, _, _, _, _, _, _, _, _, _, _, _, _, _, _, _, _, _, _, _, rfl, rfl, hk0, hX, fO, fE, f0, (fun _ => rfl), f2, f3, f4, f5, f6, f7, f8, f9, HH.out.1, HH.out.2⟩
        | 2, ho, hli, hd =>
          obtain rfl := Option.some.inj ho
          obtain rfl : b2 = false := hli
          obtain rfl : b1 = true := hd ⟨1, .data⟩ (by simp) rfl
          obtain rfl := f1 rfl
          have hm : w'.cell? ⟨w3.heap.size, 0, none⟩ = some (.int .i64 (u : Int)) := hX.cell 0
          have HH := Lib.hid (And.intro c10 c8)
          clear c10 c8
          go_simp
          exact hK _ _ ⟨_, _, _, _, _, _, _, _, _, _, _, _, _, _, _, _, _, _, _, _, _, rfl, rfl, hk0, hX, fO, fE, f0, f1, (fun _ => rfl), f3, f4, f5, f6, f7, f8, f9, HH.out.1, HH.out.2⟩
        | 3, ho, hli, hd =>
          obtain rfl := Option.some.inj ho
          obtain rfl : b3 = false := hli
          obtain rfl : b0 = true := hd ⟨0, .data⟩ (by simp) rfl
          obtain rfl : b2 = true := hd ⟨2, .data⟩ (by simp) rfl
          obtain rfl := f0 rfl
          obtain rfl := f2 rfl
          have HH := Lib.hid (And.intro c10 c8)
          clear c10 c8
          go_simp
          exact hK _ _ ⟨_, _, _, _, _, _, _, _, _, _, _, _, _, _, _, _, _, _, _, _, _, rfl, rfl, hk0, hX, fO, fE, f0, f1, f2, (fun _ => rfl), f4, f5, f6, f7, f8, f9, HH.out.1, HH.out.2⟩
        | 4, ho, hli, hd =>
          obtain rfl := Option.some.inj ho
          obtain rfl : b4 = false := hli
          obtain rfl : b3 = true := hd ⟨3, .data⟩ (by simp) rfl
          obtain rfl := f3 rfl
          have e8 : b8 = false := by
            cases hh : b8 with
            | false => rfl
            | true => have := c8 hh; cases this
          subst e8
          have e10 : b10 = false := by
            cases hh : b10 with
            | false => rfl
            | true => have := (c10 hh).1; cases this
          subst e10
          have hm : w'.cell? ⟨w.heap.size + 1, u, none⟩ = some (.int .u64 (nthN Q u : Int)) := by rw [(fO rfl).cell]; exact u64C_at (by omega)
          have HH := Lib.hid (And.intro c10 c8)
          clear c10 c8
          go_simp
          exact hK _ _ ⟨_, _, _, _, _, _, _, _, _, _, _, _, _, _, _, _, _, _, _, _, _, rfl, rfl, hk0, hX, fO, fE, f0, f1, f2, f3, (fun _ => rfl), f5, f6, f7, f8, f9, (fun e => by cases e), (fun e => by cases e)⟩
        | 5, ho, hli, hd =>
          obtain rfl := Option.some.inj ho
          obtain rfl : b5 = false := hli
          have HH := Lib.hid (And.intro c10 c8)
          clear c10 c8
          go_simp
          exact hK _ _ ⟨_, _, _, _, _, _, _, _, _, _, _, _, _, _, _, _, _, _, _, _, _, rfl, rfl, hk0, hX, fO, fE, f0, f1, f2, f3, f4, (fun _ => rfl), f6, f7, f8, f9, HH.out.1, HH.out.2⟩
        | 6, ho, hli, hd =>
          obtain rfl := Option.some.inj ho
          obtain rfl : b6 = false := hli
          obtain rfl : b5 = true := hd ⟨5, .data⟩ (by simp) rfl
          obtain rfl := f5 rfl
          have hm : w'.cell? ⟨w3.heap.size, 1, none⟩ = some (.int .i64 (v : Int)) := hX.cell 1
          have HH := Lib.hid (And.intro c10 c8)
          clear c10 c8
          go_simp
          exact hK _ _ ⟨_, _, _, _, _, _, _, _, _, _, _, _, _, _, _, _, _, _, _, _, _, rfl, rfl, hk0, hX, fO, fE, f0, f1, f2, f3, f4, f5, (fun _ => rfl), f7, f8, f9, HH.out.1, HH.out.2⟩
        | 7, ho, hli, hd =>
          obtain rfl := Option.some.inj ho
          obtain rfl : b7 = false := hli
          obtain rfl : b6 = true := hd ⟨6, .data⟩ (by simp) rfl
          obtain rfl := f6 rfl
          have HH := Lib.hid (And.intro c10 c8)
          clear c10 c8
          go_simp
          exact hK _ _ ⟨_, _, _, _, _, _, _, _, _, _, _, _, _, _, _, _, _, _, _, _, _, rfl, rfl, hk0, hX, fO, fE, f0, f1, f2, f3, f4, f5, f6, (fun _ => by rw [wrap_pow (by omega)]), f8, f9, HH.out.1, HH.out.2⟩
        | 8, ho, hli, hd =>
          obtain rfl := Option.some.inj ho
          obtain rfl : b8 = false := hli
          obtain rfl : b4 = true := hd ⟨4, .data⟩ (by simp) rfl
          obtain rfl : b7 = true := hd ⟨7, .data⟩ (by simp) rfl
          obtain rfl := f4 rfl
          obtain rfl := f7 rfl
          have e10 : b10 = false := by
            cases hh : b10 with
            | false => rfl
            | true => have := (c10 hh).1; cases this
          subst e10
          have HH := Lib.hid (And.intro c10 c8)
          clear c10 c8
          go_simp
          exact hK _ _ ⟨_, _, _, _, _, _, _, _, _, _, _, _, _, _, _, _, _, _, _, _, _, rfl, rfl, hk0, hX, fO, fE, f0, f1, f2, f3, f4, f5, f6, f7, (fun _ => by rw [or_val HLOW.out (by omega)]), f9, (fun e => by cases e), (fun _ => rfl)⟩
        | 9, ho, hli, hd =>
          obtain rfl := Option.some.inj ho
          obtain rfl : b9 = false := hli
          obtain rfl : b0 = true := hd ⟨0, .data⟩ (by simp) rfl
          obtain rfl : b2 = true := hd ⟨2, .data⟩ (by simp) rfl
          obtain rfl := f0 rfl
          obtain rfl := f2 rfl
          have e10 : b10 = false := by
            cases hh : b10 with
            | false => rfl
            | true => have := (c10 hh).2; cases this
          subst e10
          have HH := Lib.hid (And.intro c10 c8)
          clear c10 c8
          go_simp
          exact hK _ _ ⟨_, _, _, _, _, _, _, _, _, _, _, _, _, _, _, _, _, _, _, _, _, rfl, rfl, hk0, hX, fO, fE, f0, f1, f2, f3, f4, f5, f6, f7, f8, (fun _ => rfl), (fun e => by cases e), HH.out.2⟩
        | 10, ho, hli, hd =>
          obtain rfl := Option.some.inj ho
          obtain rfl : b10 = false := hli
          obtain rfl : b8 = true := hd ⟨8, .data⟩ (by simp) rfl
          obtain rfl : b9 = true := hd ⟨9, .data⟩ (by simp) rfl
          obtain rfl := f8 rfl
          obtain rfl := f9 rfl
          have hz := (fO rfl).frozen u
          have hm : w'.cell? ⟨w.heap.size + 1, u, none⟩ = some (.int .u64 (nthN Q u : Int)) := by rw [(fO rfl).cell]; exact u64C_at (by omega)
          have hne : w3.heap.size ≠ w.heap.size + 1 := by omega
          have HH := Lib.hid (And.intro c10 c8)
          clear c10 c8
          go_simp
          exact hK _ _ ⟨_, _, _, _, _, _, _, _, _, _, _, _, _, _, _, _, _, _, _, _, _, rfl, rfl, (hk0.set (p := ⟨w.heap.size + 1, u, none⟩) (.inl (by simp)) _), (hX.far (p := ⟨w.heap.size + 1, u, none⟩) hne _), (fun e => by cases e), (fun _ => by rw [← u64C_set]; exact (fO rfl).set_ u _), f0, f1, f2, f3, f4, f5, f6, f7, f8, f9, (fun _ => ⟨rfl, rfl⟩), HH.out.2⟩
        | i + 11, ho, hli, hd => simp at ho
      rintro listed a' w' ⟨b0, b1, b2, b3, b4, b5, b6, b7, b8, b9, b10, u47, u48, u49, u50, u51, u52, u53, u54, u55, u56, rfl, rfl, hk0, hX, fO, fE, f0, f1, f2, f3, f4, f5, f6, f7, f8, f9, c10, c8⟩ hr
      obtain rfl : b0 = true := ready_nil hr (i := 0) rfl (by first | (simp; done) | (simp; intro q; exact absurd q (by decide)))
      obtain rfl : b1 = true := ready_nil hr (i := 1) rfl (by first | (simp; done) | (simp; intro q; exact absurd q (by decide)))
      obtain rfl : b2 = true := ready_nil hr (i := 2) rfl (by first | (simp; done) | (simp; intro q; exact absurd q (by decide)))
      obtain rfl : b3 = true := ready_nil hr (i := 3) rfl (by first | (simp; done) | (simp; intro q; exact absurd q (by decide)))
      obtain rfl : b4 = true := ready_nil hr (i := 4) rfl (by first | (simp; done) | (simp; intro q; exact absurd q (by decide)))
      obtain rfl : b5 = true := ready_nil hr (i := 5) rfl (by first | (simp; done) | (simp; intro q; exact absurd q (by decide)))
      obtain rfl : b6 = true := ready_nil hr (i := 6) rfl (by first | (simp; done) | (simp; intro q; exact absurd q (by decide)))
      obtain rfl : b7 = true := ready_nil hr (i := 7) rfl (by first | (simp; done) | (simp; intro q; exact absurd q (by decide)))
      obtain rfl : b8 = true := ready_nil hr (i := 8) rfl (by first | (simp; done) | (simp; intro q; exact absurd q (by decide)))
      obtain rfl : b9 = true := ready_nil hr (i := 9) rfl (by first | (simp; done) | (simp; intro q; exact absurd q (by decide)))
      obtain rfl : b10 = true := ready_nil hr (i := 10) rfl (by first | (simp; done) | (simp; intro q; exact absurd q (by decide)))
      clear hr
      have hB8 := fE rfl
      have hK8 := HK4.out.trans hk0
      have hup2 : Q.set u (nthN Q u ||| 2 ^ v) = ((edgeL p).take (k + 1)).foldl eStep (List.replicate (N + 1) 0) := HUP.out.symm
      rw [hup2] at hB8
      clear f0 f1 f2 f3 f4 f5 f6 f7 f8 f9 fO fE hX c10 c8 hk0
      have HB8 := Lib.hid hB8; clear hB8
      have HK8 := Lib.hid hK8; clear hK8
      go_wp2_with fail
      go_roundw
      case rel => exact ⟨k + 1, rfl, by omega, by go_num, HB8.out, HK8.out⟩
      case measure => simp [intOf]; omega
    · have hke : k = el := by omega
      subst hke
      have hkl := HEL.out
      rw [List.take_of_length_le (by omega)] at hB
      have hee : (edgeL p).foldl eStep (List.replicate (N + 1) 0) = eBits (N + 1) (edgeL p) := rfl
      rw [hee] at hB
      have hlow : Low 13 (eBits (N + 1) (edgeL p)) := eFold_low _ _ (fun e he => by
        have := edge_rng HG.out (of_len p) e he
        omega) (Low.zero 13 _)
      have helen : (eBits (N + 1) (edgeL p)).length = N + 1 := eBits_len _ _
      have hrl : rchL p = wRnd (N + 1) (eBits (N + 1) (edgeL p)) (N + 1) := by unfold rchL; rw [← HN.out]
      have hzb : w.heap.size + 1 < w2.heap.size := HU2.out.lt
      have nk0 : (0 : Int) ≤ (k : Int) := by omega
      clear hE3 hx3 hkl hee
      generalize eBits (N + 1) (edgeL p) = E at *
      have HB := Lib.hid hB; clear hB
      have HK := Lib.hid hK; clear hK
      have HLOW := Lib.hid hlow; clear hlow
      have HELEN := Lib.hid helen; clear helen
      have HRL := Lib.hid hrl; clear hrl
      go_wp2_with fail
      go_loopw [60, 92] (fun t x92 wr => ∃ k2 : Nat, k2 ≤ N + 1 ∧ t = .int .i64 (k2 : Int) ∧ Blk wr (w.heap.size + 1) 50 (u64C (wRnd (N + 1) E k2)) ∧ Kept [w.heap.size + 1] w2 wr) (fun t _ _ => N + 1 - (intOf t).toNat)
      case atStart => exact ⟨0, Nat.zero_le _, rfl, HB.out, HK.out⟩
      case round =>
        obtain ⟨k2, hk2, rfl, hB2, hK2⟩ := hrel
        obtain ⟨W2, rfl⟩ : ∃ W2 : World, W2 = wr := ⟨_, rfl⟩
        by_cases hl2 : k2 < N + 1
        · have k20 : (0 : Int) ≤ (k2 : Int) := by omega
          have k21 : (k2 : Int) < (N : Int) + 1 := by omega
          have HB2 := Lib.hid hB2; clear hB2
          have HK2 := Lib.hid hK2; clear hK2
          go_wp2_with fail
          go_loopw [64, 91] (fun t x91 wr => ∃ a : Nat, a ≤ N + 1 ∧ t = .int .i64 (a : Int) ∧ Blk wr (w.heap.size + 1) 50 (u64C (wAll (N + 1) (wRnd (N + 1) E k2) a)) ∧ Kept [w.heap.size + 1] w2 wr) (fun t _ _ => N + 1 - (intOf t).toNat)
          case atStart => exact ⟨0, Nat.zero_le _, rfl, HB2.out, HK2.out⟩
          case round =>
            obtain ⟨a, ha, rfl, hB3, hK3⟩ := hrel
            obtain ⟨W3, rfl⟩ : ∃ W3 : World, W3 = wr := ⟨_, rfl⟩
            by_cases hl3 : a < N + 1
            · have a0 : (0 : Int) ≤ (a : Int) := by omega
              have a1 : (a : Int) < (N : Int) + 1 := by omega
              have HB3 := Lib.hid hB3; clear hB3
              have HK3 := Lib.hid hK3; clear hK3
              go_wp2_with fail
              go_loopw [69, 90] (fun t x90 wr => ∃ b : Nat, b ≤ N + 1 ∧ t = .int .i64 (b : Int) ∧ Blk wr (w.heap.size + 1) 50 (u64C (wRow a (wAll (N + 1) (wRnd (N + 1) E k2) a) b)) ∧ Kept [w.heap.size + 1] w2 wr) (fun t _ _ => N + 1 - (intOf t).toNat)
              case atStart => exact ⟨0, Nat.zero_le _, rfl, HB3.out, HK3.out⟩
              case round =>
                obtain ⟨b', hb', rfl, hB4, hK4⟩ := hrel
                obtain ⟨W4, rfl⟩ : ∃ W4 : World, W4 = wr := ⟨_, rfl⟩
                by_cases hl4 : b' < N + 1
                · have b0 : (0 : Int) ≤ (b' : Int) := by omega
                  have b1 : (b' : Int) < (N : Int) + 1 := by omega
                  have hup : wRow a (wAll (N + 1) (wRnd (N + 1) E k2) a) (b' + 1) = wB (wRow a (wAll (N + 1) (wRnd (N + 1) E k2) a) b') a b' := rfl
                  have hql : (wRow a (wAll (N + 1) (wRnd (N + 1) E k2) a) b').length = N + 1 := by rw [wRow_len, wAll_len, wRnd_len, HELEN.out]
                  have hqw : Low 13 (wRow a (wAll (N + 1) (wRnd (N + 1) E k2) a) b') := wRow_low (wAll_low (wRnd_low HLOW.out _ _) _ _) _ _
                  generalize wRow a (wAll (N + 1) (wRnd (N + 1) E k2) a) b' = Q at *
                  have hm : W4.cell? ⟨w.heap.size + 1, a, none⟩ = some (.int .u64 (nthN Q a : Int)) := by rw [hB4.cell]; exact u64C_at (by omega)
                  have hlq : nthN Q a < 8192 := hqw a
                  cases hbit : (nthN Q a).testBit b' with
                  | false =>
                    have hbv : (bits BinOp.and IntKind.u64 ((nthN Q a : Int) / 2 ^ b') 1 == 1) = false := by rw [and_one hlq, hbit]
                    have hwe : wB Q a b' = Q := by unfold wB; rw [if_neg (by rw [hbit]; decide)]
                    rw [hwe] at hup
                    rw [← hup] at hB4
                    have HUP := Lib.hid hup; clear hup
                    have HB4 := Lib.hid hB4; clear hB4
                    have HK4 := Lib.hid hK4; clear hK4
                    have HQL := Lib.hid hql; clear hql
                    have HQW := Lib.hid hqw; clear hqw
                    have HLQ := Lib.hid hlq; clear hlq
                    go_wp2_with fail
                    go_roundw
                    case rel => exact ⟨b' + 1, by omega, by go_num, HB4.out, HK4.out⟩
                    case measure => simp [intOf]; omega
                  | true =>
                    have hbv : (bits BinOp.and IntKind.u64 ((nthN Q a : Int) / 2 ^ b') 1 == 1) = true := by rw [and_one hlq, hbit]
                    have hwe : wB Q a b' = Q.set a (nthN Q a ||| nthN Q b') := by unfold wB; rw [if_pos hbit]
                    rw [hwe] at hup
                    have hlb : nthN Q b' < 8192 := hqw b'
                    have hll := hql
                    have HUP := Lib.hid hup; clear hup
                    have HB4 := Lib.hid hB4; clear hB4
                    have HK4 := Lib.hid hK4; clear hK4
                    have HQL := Lib.hid hql; clear hql
                    have HQW := Lib.hid hqw; clear hqw
                    have HLQ := Lib.hid hlq; clear hlq
                    have HLB := Lib.hid hlb; clear hlb
                    go_upto_region 19 with fail
                    clear hm hbv
                    refine wp_region_inv (fun listed a' w' => ∃ (b0 b1 b2 b3 b4 b5 b6 b7 b8 b9 b10 : Bool) (u80 u81 u82 u83 u84 u85 u86 u87 u88 u89 : Value), listed = #[b0, b1, b2, b3, b4, b5, b6, b7, b8, b9, b10] ∧ a' = { tmps := #[.agg #[.int .i64 (N : Int), .slice nA nl nc, .slice sA sl sc, .slice rA rl rc, .slice mA ml mc], .pointer (some ⟨w.heap.size, 0, none⟩), .slice none 0 0, .slice (some ⟨w.heap.size + 1, 0, none⟩) (N + 1) (N + 1), .slice eA k ec, .int .i64 0, undef, u7, .int .i64 (a : Int), .int .i64 (b' : Int), .pointer (some ⟨w.heap.size, 0, none⟩), .int .i64 (N : Int), .int .i64 ((N : Int) + 1), .slice (some ⟨w.heap.size + 1, 0, none⟩) (N + 1) (N + 1), Value.tuple #[.slice eA k ec, .int .i64 0], .agg #[.int .i64 (N : Int), .slice nA nl nc, .slice sA sl sc, .slice rA rl rc, .slice mA ml mc], Value.tuple #[.slice eA k ec, .int .i64 0], .slice eA k ec, .int .i64 0, .slice eA k ec, .int .i64 (k : Int), .int .i64 (k : Int), .bool false, u23, u24, u25, u26, u27, u28, u29, u30, u31, u32, u33, u34, u35, u36, u37, u38, u39, u40, u41, u42, u43, u44, u45, u46, u47, u48, u49, u50, u51, u52, u53, u54, u55, u56, u57, .slice (some ⟨w.heap.size + 1, 0, none⟩) (N + 1) (N + 1), .int .i64 ((N : Int) + 1), .int .i64 (k2 : Int), .bool true, .slice (some ⟨w.heap.size + 1, 0, none⟩) (N + 1) (N + 1), .int .i64 ((N : Int) + 1), .int .i64 (a : Int), .bool true, .int .i64 (a : Int), .slice (some ⟨w.heap.size + 1, 0, none⟩) (N + 1) (N + 1), .int .i64 ((N : Int) + 1), .int .i64 (b' : Int), .bool true, .int .i64 (b' : Int), .slice (some ⟨w.heap.size + 1, 0, none⟩) (N + 1) (N + 1), .int .i64 (a : Int), .pointer (some ⟨w.heap.size + 1, a, none⟩), Value.int IntKind.u64 (nthN Q a : Int), .int .i64 (b' : Int), Value.int IntKind.u64 ((nthN Q a : Int) / 2 ^ b'), Value.int IntKind.u64 (bits BinOp.and IntKind.u64 ((nthN Q a : Int) / 2 ^ b') 1), .bool true, u80, u81, u82, u83, u84, u85, u86, u87, u88, u89, u90, u91, u92, undef], defers := [] } ∧ (Kept [w.heap.size + 1] W4 w') ∧ (b10 = false → Blk w' (w.heap.size + 1) 50 (u64C Q)) ∧ (b10 = true → Blk w' (w.heap.size + 1) 50 (u64C (Q.set a (nthN Q a ||| nthN Q b')))) ∧ (b0 = true → u80 = .slice (some ⟨w.heap.size + 1, 0, none⟩) (N + 1) (N + 1)) ∧ (b1 = true → u81 = .int .i64 (a : Int)) ∧ (b2 = true → u82 = .pointer (some ⟨w.heap.size + 1, a, none⟩)) ∧ (b3 = true → u83 = .int .u64 (nthN Q a : Int)) ∧ (b4 = true → u84 = .slice (some ⟨w.heap.size + 1, 0, none⟩) (N + 1) (N + 1)) ∧ (b5 = true → u85 = .int .i64 (b' : Int)) ∧ (b6 = true → u86 = .pointer (some ⟨w.heap.size + 1, b', none⟩)) ∧ (b7 = true → u87 = .int .u64 (nthN Q b' : Int)) ∧ (b8 = true → u88 = .int .u64 ((nthN Q a ||| nthN Q b' : Nat) : Int)) ∧ (b9 = true → u89 = .pointer (some ⟨w.heap.size + 1, a, none⟩)) ∧ (b10 = true → b8 = true ∧ b9 = true) ∧ (b8 = true → b3 = true ∧ b7 = true)) (by kernel_rfl) ?start ?step ?_
                    case start => exact ⟨false, false, false, false, false, false, false, false, false, false, false, _, _, _, _, _, _, _, _, _, _, rfl, rfl, (Kept.refl _ _).drew, (fun _ => HB4.out.drew), (by simp), (by simp), (by simp), (by simp), (by simp), (by simp), (by simp), (by simp), (by simp), (by simp), (by simp), (by simp), (by simp)⟩
                    case step =>
                      rintro listed a' w' i o ⟨b0, b1, b2, b3, b4, b5, b6, b7, b8, b9, b10, u80, u81, u82, u83, u84, u85, u86, u87, u88, u89, rfl, rfl, hk0, fO, fE, f0, f1, f2, f3, f4, f5, f6, f7, f8, f9, c10, c8⟩ ho hli hd K hK
                      match i, ho, hli, hd with
                      | 0, ho, hli, hd =>
                        obtain rfl := Option.some.inj ho
                        obtain rfl : b0 = false := hli
                        have HH := Lib.hid (And.intro c10 c8)
                        clear c10 c8
                        go_simp
                        exact hK _ _ ⟨_, _, _, _, _, _, _, _, _, _, _, _, _, _, _, _, _, _, _, _, _, rfl, rfl, hk0, fO, fE, (fun _ => rfl), f1, f2, f3, f4, f5, f6, f7, f8, f9, HH.out.1, HH.out.2⟩
                      | 1, ho, hli, hd =>
                        obtain rfl := Option.some.inj ho
                        obtain rfl : b1 = false := hli
                        have HH := Lib.hid (And.intro c10 c8)
                        clear c10 c8
                        go_simp
                        exact hK _ _ ⟨_, _, _, _, _, _, _, _, _, _, _, _, _, _, _, _, _, _, _, _, _, rfl, rfl, hk0, fO, fE, f0, (fun _ => rfl), f2, f3, f4, f5, f6, f7, f8, f9, HH.out.1, HH.out.2⟩
                      | 2, ho, hli, hd =>
                        obtain rfl := Option.some.inj ho
                        obtain rfl : b2 = false := hli
                        obtain rfl : b0 = true := hd ⟨0, .data⟩ (by simp) rfl
                        obtain rfl : b1 = true := hd ⟨1, .data⟩ (by simp) rfl
                        obtain rfl := f0 rfl
                        obtain rfl := f1 rfl
                        have HH := Lib.hid (And.intro c10 c8)
                        clear c10 c8
                        go_simp
                        exact hK _ _ ⟨_, _, _, _, _, _, _, _, _, _, _, _, _, _, _, _, _, _, _, _, _, rfl, rfl, hk0, fO, fE, f0, f1, (fun _ => rfl), f3, f4, f5, f6, f7, f8, f9, HH.out.1, HH.out.2⟩
                      | 3, ho, hli, hd =>
                        obtain rfl := Option.some.inj ho
                        obtain rfl : b3 = false := hli
                        obtain rfl : b2 = true := hd ⟨2, .data⟩ (by simp) rfl
                        obtain rfl := f2 rfl
                        have e8 : b8 = false := by
                          cases hh : b8 with
                          | false => rfl
                          | true => have := (c8 hh).1; cases this
                        subst e8
                        have e10 : b10 = false := by
                          cases hh : b10 with
                          | false => rfl
                          | true => have := (c10 hh).1; cases this
                        subst e10
                        have hm : w'.cell? ⟨w.heap.size + 1, a, none⟩ = some (.int .u64 (nthN Q a : Int)) := by rw [(fO rfl).cell]; exact u64C_at (by omega)
                        have HH := Lib.hid (And.intro c10 c8)
                        clear c10 c8
                        go_simp
                        exact hK _ _ ⟨_, _, _, _, _, _, _, _, _, _, _, _, _, _, _, _, _, _, _, _, _, rfl, rfl, hk0, fO, fE, f0, f1, f2, (fun _ => rfl), f4, f5, f6, f7, f8, f9, (fun e => by cases e), (fun e => by cases e)⟩
                      | 4, ho, hli, hd =>
                        obtain rfl := Option.some.inj ho
                        obtain rfl : b4 = false := hli
                        have HH := Lib.hid (And.intro c10 c8)
                        clear c10 c8
                        go_simp
                        exact hK _ _ ⟨_, _, _, _, _, _, _, _, _, _, _, _, _, _, _, _, _, _, _, _, _, rfl, rfl, hk0, fO, fE, f0, f1, f2, f3, (fun _ => rfl), f5, f6, f7, f8, f9, HH.out.1, HH.out.2⟩
                      | 5, ho, hli, hd =>
                        obtain rfl := Option.some.inj ho
                        obtain rfl : b5 = false := hli
                        have HH := Lib.hid (And.intro c10 c8)
                        clear c10 c8
                        go_simp
                        exact hK _ _ ⟨_, _, _, _, _, _, _, _, _, _, _, _, _, _, _, _, _, _, _, _, _, rfl, rfl, hk0, fO, fE, f0, f1, f2, f3, f4, (fun _ => rfl), f6, f7, f8, f9, HH.out.1, HH.out.2⟩
                      | 6, ho, hli, hd =>
                        obtain rfl := Option.some.inj ho
                        obtain rfl : b6 = false := hli
                        obtain rfl : b4 = true := hd ⟨4, .data⟩ (by simp) rfl
                        obtain rfl : b5 = true := hd ⟨5, .data⟩ (by simp) rfl
                        obtain rfl := f4 rfl
                        obtain rfl := f5 rfl
                        have HH := Lib.hid (And.intro c10 c8)
                        clear c10 c8
                        go_simp
                        exact hK _ _ ⟨_, _, _, _, _, _, _, _, _, _, _, _, _, _, _, _, _, _, _, _, _, rfl, rfl, hk0, fO, fE, f0, f1, f2, f3, f4, f5, (fun _ => rfl), f7, f8, f9, HH.out.1, HH.out.2⟩
                      | 7, ho, hli, hd =>
                        obtain rfl := Option.some.inj ho
                        obtain rfl : b7 = false := hli
                        obtain rfl : b6 = true := hd ⟨6, .data⟩ (by simp) rfl
                        obtain rfl := f6 rfl
                        have e8 : b8 = false := by
                          cases hh : b8 with
                          | false => rfl
                          | true => have := (c8 hh).2; cases this
                        subst e8
                        have e10 : b10 = false := by
                          cases hh : b10 with
                          | false => rfl
                          | true => have := (c10 hh).1; cases this
                        subst e10
                        have hm : w'.cell? ⟨w.heap.size + 1, b', none⟩ = some (.int .u64 (nthN Q b' : Int)) := by rw [(fO rfl).cell]; exact u64C_at (by omega)
                        have HH := Lib.hid (And.intro c10 c8)
                        clear c10 c8
                        go_simp
                        exact hK _ _ ⟨_, _, _, _, _, _, _, _, _, _, _, _, _, _, _, _, _, _, _, _, _, rfl, rfl, hk0, fO, fE, f0, f1, f2, f3, f4, f5, f6, (fun _ => rfl), f8, f9, (fun e => by cases e), (fun e => by cases e)⟩
                      | 8, ho, hli, hd =>
                        obtain rfl := Option.some.inj ho
                        obtain rfl : b8 = false := hli
                        obtain rfl : b3 = true := hd ⟨3, .data⟩ (by simp) rfl
                        obtain rfl : b7 = true := hd ⟨7, .data⟩ (by simp) rfl
                        obtain rfl := f3 rfl
                        obtain rfl := f7 rfl
                        have e10 : b10 = false := by
                          cases hh : b10 with
                          | false => rfl
                          | true => have := (c10 hh).1; cases this
                        subst e10
                        have HH := Lib.hid (And.intro c10 c8)
                        clear c10 c8
                        go_simp
                        exact hK _ _ ⟨_, _, _, _, _, _, _, _, _, _, _, _, _, _, _, _, _, _, _, _, _, rfl, rfl, hk0, fO, fE, f0, f1, f2, f3, f4, f5, f6, f7, (fun _ => by rw [or_two HLQ.out HLB.out]), f9, (fun e => by cases e), (fun _ => ⟨rfl, rfl⟩)⟩
                      | 9, ho, hli, hd =>
                        obtain rfl := Option.some.inj ho
                        obtain rfl : b9 = false := hli
                        obtain rfl : b0 = true := hd ⟨0, .data⟩ (by simp) rfl
                        obtain rfl : b1 = true := hd ⟨1, .data⟩ (by simp) rfl
                        obtain rfl := f0 rfl
                        obtain rfl := f1 rfl
                        have e10 : b10 = false := by
                          cases hh : b10 with
                          | false => rfl
                          | true => have := (c10 hh).2; cases this
                        subst e10
                        have HH := Lib.hid (And.intro c10 c8)
                        clear c10 c8
                        go_simp
                        exact hK _ _ ⟨_, _, _, _, _, _, _, _, _, _, _, _, _, _, _, _, _, _, _, _, _, rfl, rfl, hk0, fO, fE, f0, f1, f2, f3, f4, f5, f6, f7, f8, (fun _ => rfl), (fun e => by cases e), HH.out.2⟩
                      | 10, ho, hli, hd =>
                        obtain rfl := Option.some.inj ho
                        obtain rfl : b10 = false := hli
                        obtain rfl : b8 = true := hd ⟨8, .data⟩ (by simp) rfl
                        obtain rfl : b9 = true := hd ⟨9, .data⟩ (by simp) rfl
                        obtain rfl := f8 rfl
                        obtain rfl := f9 rfl
                        have hz := (fO rfl).frozen a
                        have hm : w'.cell? ⟨w.heap.size + 1, a, none⟩ = some (.int .u64 (nthN Q a : Int)) := by rw [(fO rfl).cell]; exact u64C_at (by omega)
                        have HH := Lib.hid (And.intro c10 c8)
                        clear c10 c8
                        go_simp
                        exact hK _ _ ⟨_, _, _, _, _, _, _, _, _, _, _, _, _, _, _, _, _, _, _, _, _, rfl, rfl, (hk0.set (p := ⟨w.heap.size + 1, a, none⟩) (.inl (by simp)) _), (fun e => by cases e), (fun _ => by rw [← u64C_set]; exact (fO rfl).set_ a _), f0, f1, f2, f3, f4, f5, f6, f7, f8, f9, (fun _ => ⟨rfl, rfl⟩), HH.out.2⟩
                      | i + 11, ho, hli, hd => simp at ho
                    rintro listed a' w' ⟨b0, b1, b2, b3, b4, b5, b6, b7, b8, b9, b10, u80, u81, u82, u83, u84, u85, u86, u87, u88, u89, rfl, rfl, hk0, fO, fE, f0, f1, f2, f3, f4, f5, f6, f7, f8, f9, c10, c8⟩ hr
                    obtain rfl : b0 = true := ready_nil hr (i := 0) rfl (by first | (simp; done) | (simp; intro q; exact absurd q (by decide)))
                    obtain rfl : b1 = true := ready_nil hr (i := 1) rfl (by first | (simp; done) | (simp; intro q; exact absurd q (by decide)))
                    obtain rfl : b2 = true := ready_nil hr (i := 2) rfl (by first | (simp; done) | (simp; intro q; exact absurd q (by decide)))
                    obtain rfl : b3 = true := ready_nil hr (i := 3) rfl (by first | (simp; done) | (simp; intro q; exact absurd q (by decide)))
                    obtain rfl : b4 = true := ready_nil hr (i := 4) rfl (by first | (simp; done) | (simp; intro q; exact absurd q (by decide)))
                    obtain rfl : b5 = true := ready_nil hr (i := 5) rfl (by first | (simp; done) | (simp; intro q; exact absurd q (by decide)))
                    obtain rfl : b6 = true := ready_nil hr (i := 6) rfl (by first | (simp; done) | (simp; intro q; exact absurd q (by decide)))
                    obtain rfl : b7 = true := ready_nil hr (i := 7) rfl (by first | (simp; done) | (simp; intro q; exact absurd q (by decide)))
                    obtain rfl : b8 = true := ready_nil hr (i := 8) rfl (by first | (simp; done) | (simp; intro q; exact absurd q (by decide)))
                    obtain rfl : b9 = true := ready_nil hr (i := 9) rfl (by first | (simp; done) | (simp; intro q; exact absurd q (by decide)))
                    obtain rfl : b10 = true := ready_nil hr (i := 10) rfl (by first | (simp; done) | (simp; intro q; exact absurd q (by decide)))
                    clear hr
                    have hB8 := fE rfl
                    have hK8 := HK4.out.trans hk0
                    rw [← HUP.out] at hB8
                    clear f0 f1 f2 f3 f4 f5 f6 f7 f8 f9 fO fE c10 c8 hk0
                    have HB8 := Lib.hid hB8; clear hB8
                    have HK8 := Lib.hid hK8; clear hK8
                    go_wp2_with fail
                    go_roundw
                    case rel => exact ⟨b' + 1, by omega, by go_num, HB8.out, HK8.out⟩
                    case measure => simp [intOf]; omega
                · have hbe : b' = N + 1 := by omega
                  subst hbe
                  have hw : wRow a (wAll (N + 1) (wRnd (N + 1) E k2) a) (N + 1) = wAll (N + 1) (wRnd (N + 1) E k2) (a + 1) := rfl
                  rw [hw] at hB4
                  have HB4 := Lib.hid hB4; clear hB4
                  have HK4 := Lib.hid hK4; clear hK4
                  go_wp2_with fail
                  go_roundw
                  case rel => exact ⟨a + 1, by omega, by go_num, HB4.out, HK4.out⟩
                  case measure => simp [intOf]; omega
            · have hae : a = N + 1 := by omega
              subst hae
              have hw : wAll (N + 1) (wRnd (N + 1) E k2) (N + 1) = wRnd (N + 1) E (k2 + 1) := rfl
              rw [hw] at hB3
              have HB3 := Lib.hid hB3; clear hB3
              have HK3 := Lib.hid hK3; clear hK3
              go_wp2_with fail
              go_roundw
              case rel => exact ⟨k2 + 1, by omega, by go_num, HB3.out, HK3.out⟩
              case measure => simp [intOf]; omega
        · have hke : k2 = N + 1 := by omega
          subst hke
          rw [← HRL.out] at hB2
          have hw9 := Kept.below HW2.out hK2 HW2.out.size (fun q hq => by
            have e : q = w.heap.size + 1 := by simpa using hq
            omega)
          have HB2 := Lib.hid hB2; clear hB2
          have HK2 := Lib.hid hK2; clear hK2
          have HW9 := Lib.hid hw9; clear hw9
          go_wp2_with fail
          go_ret
          exact ⟨_, rfl, HB2.out, by omega, HW9.out⟩
end Go.Proofs.Ytbfbkpoakmnlpaa

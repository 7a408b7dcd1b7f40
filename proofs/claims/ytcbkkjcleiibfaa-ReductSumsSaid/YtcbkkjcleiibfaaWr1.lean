/- ReductWrong (plain): the seven bad rules, the five bad sets, the bad list of shown atoms; slices of slices of ints. -/
import Derived.Test.YtcbkkjcleiibfaaAwk
namespace Go.Proofs.Ytcbkkjcleiibfaa
open Go.RowKit

theorem wr_m0 (n : Int) : incB n [0] = false := by simp [incB, ordB, ordGo, litB]
theorem wr_m1 (n : Int) : incB n [-1] = false := by simp [incB]
theorem wr_m2 (n : Int) : incB n [n + 1] = false := by
  simp [incB, ordB, ordGo, litB]; omega
theorem wr_m3 (n a : Int) : incB n [a, a] = false := by
  have : litLt a a = false := by unfold litLt; simp
  simp [incB, ordB, ordGo, this]
theorem wr_m4 (n : Int) : incB n [n + 1, 1] = false := by
  simp [incB, ordB, ordGo, litB]; omega
def wrM (n a : Int) : List (List Int) := [[0], [-1], [n + 1], [a, a], [n + 1, 1]]
theorem wrM_bad (n a : Int) : ∀ m ∈ wrM n a, incB n m = false := by
  intro m hm
  simp only [wrM, List.mem_cons, List.not_mem_nil, or_false] at hm
  rcases hm with rfl | rfl | rfl | rfl | rfl
  · exact wr_m0 n
  · exact wr_m1 n
  · exact wr_m2 n
  · exact wr_m3 n a
  · exact wr_m4 n
theorem wr_check {p : GProg} {m : List Int} (hv : validE p = 0) (hm : incB p.n m = false) : checkE p m = 2 := by
  unfold checkE; rw [hv, hm]; rfl
theorem wr_show (p : GProg) : checkE { p with shown := [p.n + 1] } [] = 170 := by
  have h : validE { p with shown := [p.n + 1] } = 170 := by
    unfold validE
    rw [if_pos]
    unfold namedB
    rw [show incB p.n [p.n + 1] = false from wr_m2 p.n]
    simp
  unfold checkE
  rw [h]; rfl
def wrR0 (a : Int) : GRule := ⟨false, [a], false, 0, [], []⟩
def wrB (n a : Int) : Nat → GRule
  | 0 => ⟨false, [a, n + 1], false, 0, [], []⟩
  | 1 => ⟨true, [a], false, 0, [], []⟩
  | 2 => ⟨false, [a], false, 0, [-a], []⟩
  | 3 => ⟨false, [n + 1], false, 0, [], []⟩
  | 4 => ⟨false, [a], false, 1, [], []⟩
  | 5 => ⟨false, [], false, 0, [0], []⟩
  | _ => ⟨false, [a], true, 0, [a], []⟩
theorem wr_def (n a : Int) (h1 : 1 ≤ a) (_ : a ≤ n) (k : Nat) : defB n [wrR0 a, wrB n a k] = false := by
  have key : defR n (wrB n a k) = false → defB n [wrR0 a, wrB n a k] = false := fun h => by
    unfold defB; simp [h]
  apply key
  match k with
  | 0 =>
    have : incB n [a, n + 1] = false := by simp [incB, ordB, ordGo, litB]; omega
    simp [defR, wrB, ruleE, this]
  | 1 => simp [defR, wrB]
  | 2 =>
    have : ¬ a ≤ 0 := by omega
    simp [defR, wrB, this]
  | 3 =>
    simp [defR, wrB, ruleE, wr_m2 n]
    split <;> simp
  | 4 =>
    simp [defR, wrB, ruleE]
    repeat' split
    all_goals simp
  | 5 =>
    have : ordB n [0] = false := by simp [ordB, ordGo, litB]
    simp [defR, wrB, ruleE, this]
    repeat' split
    all_goals simp
  | k + 6 =>
    have : wtB [] 1 = false := by simp [wtB]
    simp [defR, wrB, ruleE, this]
    repeat' split
    all_goals simp
theorem SlIs.row {w : World} {A : Option Addr} {l c : Nat} {xss : List (List Int)} (h : SlIs (slR intR) w A l c xss) {k : Nat} {xs : List Int} (hx : xss[k]? = some xs) :
    ∃ b off mA ml mc, A = some ⟨b, off, none⟩ ∧ b < w.heap.size ∧ w.cell? ⟨b, off + k, none⟩ = some (.slice mA ml mc) ∧ SlIs intR w mA ml mc xs := by
  obtain ⟨b, off, cs, e, hl, ⟨mA, ml, mc, rfl, hs⟩, hc⟩ := h.at_ hx
  exact ⟨b, off, mA, ml, mc, e, hl, by have := hc 0 _ rfl; simpa [slR] using this, hs⟩
def wrO (_ : Nat) (a N : Int) (h : Nat) : List Obj := [.cells #[.int .i64 0] 3, .cells #[.int .i64 (-1)] 3, .cells #[.int .i64 (N + 1)] 3, .cells #[.int .i64 a, .int .i64 a] 3, .cells #[.int .i64 (N + 1), .int .i64 1] 3,
  .cells #[.slice (some ⟨h, 0, none⟩) 1 1, .slice (some ⟨h + 1, 0, none⟩) 1 1, .slice (some ⟨h + 2, 0, none⟩) 1 1, .slice (some ⟨h + 3, 0, none⟩) 2 2, .slice (some ⟨h + 4, 0, none⟩) 2 2] 24]
theorem wrO_sl (w : World) (a N : Int) (ha : I64 a) (hN : I64 (N + 1)) : SlIs (slR intR) (allocs w (wrO 0 a N w.heap.size)) (some ⟨w.heap.size + 1 + 1 + 1 + 1 + 1, 0, none⟩) 5 5 (wrM N a) := by
  refine sl_of_cells (allocs_blk (os := wrO 0 a N w.heap.size) 5 rfl) rfl (by omega) (fun i x hx => ?_)
  have one : ∀ (g l : Nat) (xs : List Int) (j : Nat), (wrO 0 a N w.heap.size)[j]? = some (.cells (xs.map (Value.int .i64)).toArray 3) → g = w.heap.size + j → l = xs.length → xs.length ≤ 2 → (∀ x ∈ xs, I64 x) →
      (slR intR).is (allocs w (wrO 0 a N w.heap.size)) [.slice (some ⟨g, 0, none⟩) l l] xs := fun g l xs j h1 h2 h3 h4 h5 => by
    subst h2; exact ⟨_, _, _, rfl, sl_ints xs (allocs_blk j h1) h3 (by omega) h5⟩
  match i, hx with
  | 0, hx => have hx' : _ = x := Option.some.inj hx; subst hx'; exact ⟨_, one _ _ _ 0 rfl rfl rfl (by simp) (by simp [I64]), fun j u hu => by match j, hu with | 0, hu => exact hu | j + 1, hu => simp at hu⟩
  | 1, hx => have hx' : _ = x := Option.some.inj hx; subst hx'; exact ⟨_, one _ _ _ 1 rfl rfl rfl (by simp) (by simp [I64]), fun j u hu => by match j, hu with | 0, hu => exact hu | j + 1, hu => simp at hu⟩
  | 2, hx => have hx' : _ = x := Option.some.inj hx; subst hx'; exact ⟨_, one _ _ _ 2 rfl rfl rfl (by simp) (by simp [hN]), fun j u hu => by match j, hu with | 0, hu => exact hu | j + 1, hu => simp at hu⟩
  | 3, hx => have hx' : _ = x := Option.some.inj hx; subst hx'; exact ⟨_, one _ _ _ 3 rfl rfl rfl (by simp) (by simp [ha]), fun j u hu => by match j, hu with | 0, hu => exact hu | j + 1, hu => simp at hu⟩
  | 4, hx => have hx' : _ = x := Option.some.inj hx; subst hx'; exact ⟨_, one _ _ _ 4 rfl rfl rfl (by simp) (fun x hx => by rcases List.mem_cons.1 hx with rfl | hx; exact hN; (have : x = 1 := by simpa using hx); subst this; simp [I64]), fun j u hu => by match j, hu with | 0, hu => exact hu | j + 1, hu => simp at hu⟩
  | i + 5, hx => simp [wrM] at hx
/-- Two rules in a row. -/
theorem sl_two {W : World} {g : Nat} {r s : GRule} {hA bA wA iA cA xA : Option Addr} {hl hc bl bc wl wc il ic cl cc xl xc : Nat} (h : Blk W g 26 #[.bool r.choice, .slice hA hl hc, .bool r.sum, .int .i64 r.bound, .slice bA bl bc, .slice wA wl wc, .bool s.choice, .slice iA il ic, .bool s.sum, .int .i64 s.bound, .slice cA cl cc, .slice xA xl xc])
    (h1 : RuleIn W r hA hl hc bA bl bc wA wl wc) (h2 : RuleIn W s iA il ic cA cl cc xA xl xc) : SlIs ruleR W (some ⟨g, 0, none⟩) 2 2 [r, s] := by
  refine sl_of_cells h rfl (by omega) (fun i x hx => ?_)
  match i, hx with
  | 0, hx => have hx' : _ = x := Option.some.inj hx; subst hx'; exact ⟨[.bool r.choice, .slice hA hl hc, .bool r.sum, .int .i64 r.bound, .slice bA bl bc, .slice wA wl wc], ⟨_, _, _, rfl, ⟨_, _, _, rfl, h1.head⟩, h1.bound, ⟨_, _, _, rfl, h1.body⟩, ⟨_, _, _, rfl, h1.wt⟩⟩, fun j u hu => by
      match j, hu with
      | 0, hu => exact hu
      | 1, hu => exact hu
      | 2, hu => exact hu
      | 3, hu => exact hu
      | 4, hu => exact hu
      | 5, hu => exact hu
      | j + 6, hu => simp at hu⟩
  | 1, hx => have hx' : _ = x := Option.some.inj hx; subst hx'; exact ⟨[.bool s.choice, .slice iA il ic, .bool s.sum, .int .i64 s.bound, .slice cA cl cc, .slice xA xl xc], ⟨_, _, _, rfl, ⟨_, _, _, rfl, h2.head⟩, h2.bound, ⟨_, _, _, rfl, h2.body⟩, ⟨_, _, _, rfl, h2.wt⟩⟩, fun j u hu => by
      match j, hu with
      | 0, hu => exact hu
      | 1, hu => exact hu
      | 2, hu => exact hu
      | 3, hu => exact hu
      | 4, hu => exact hu
      | 5, hu => exact hu
      | j + 6, hu => simp at hu⟩
  | i + 2, hx => simp at hx
def wrT (h : Nat) : Nat → Bool × (Option Addr × Nat) × Bool × Int × (Option Addr × Nat)
  | 0 => (false, (some ⟨h, 0, none⟩, 2), false, 0, (none, 0))
  | 1 => (true, (some ⟨h + 1, 0, none⟩, 1), false, 0, (none, 0))
  | 2 => (false, (some ⟨h + 2, 0, none⟩, 1), false, 0, (some ⟨h + 3, 0, none⟩, 1))
  | 3 => (false, (some ⟨h + 4, 0, none⟩, 1), false, 0, (none, 0))
  | 4 => (false, (some ⟨h + 5, 0, none⟩, 1), false, 1, (none, 0))
  | 5 => (false, (none, 0), false, 0, (some ⟨h + 6, 0, none⟩, 1))
  | _ => (false, (some ⟨h + 7, 0, none⟩, 1), true, 0, (some ⟨h + 8, 0, none⟩, 1))
def wrV (t : Bool × (Option Addr × Nat) × Bool × Int × (Option Addr × Nat)) : Array Value := #[.bool t.1, .slice t.2.1.1 t.2.1.2 t.2.1.2, .bool t.2.2.1, .int .i64 t.2.2.2.1, .slice t.2.2.2.2.1 t.2.2.2.2.2 t.2.2.2.2.2, .slice none 0 0]
def wrRow (g : Nat) (t : Bool × (Option Addr × Nat) × Bool × Int × (Option Addr × Nat)) : Array Value := #[.bool false, .slice (some ⟨g, 0, none⟩) 1 1, .bool false, .int .i64 0, .slice none 0 0, .slice none 0 0,
  .bool t.1, .slice t.2.1.1 t.2.1.2 t.2.1.2, .bool t.2.2.1, .int .i64 t.2.2.2.1, .slice t.2.2.2.2.1 t.2.2.2.2.2 t.2.2.2.2.2, .slice none 0 0]
def wrL (a N : Int) (h k : Nat) : List Obj := [.cells #[.int .i64 a, .int .i64 (N + 1)] 3, .cells #[.int .i64 a] 3, .cells #[.int .i64 a] 3, .cells #[.int .i64 (-a)] 3, .cells #[.int .i64 (N + 1)] 3, .cells #[.int .i64 a] 3, .cells #[.int .i64 0] 3, .cells #[.int .i64 a] 3, .cells #[.int .i64 a] 3,
  .cells (wrV (wrT h k)) 26, .cells #[.int .i64 a] 3, .cells (wrRow (h + 10) (wrT h k)) 26]
theorem i64_nil : ∀ x ∈ ([] : List Int), I64 x := by simp
theorem i64_one {a : Int} (h : I64 a) : ∀ x ∈ [a], I64 x := by simpa using h
theorem i64_0 : I64 0 := by simp [I64]
theorem wr_bad (w : World) (a N : Int) (h1 : 1 ≤ a) (h2 : a ≤ N) (h3 : N ≤ 12) (k : Nat) (hk : k < 7) :
    RuleIn (allocs w (wrL a N w.heap.size k)) (wrB N a k) (wrT w.heap.size k).2.1.1 (wrT w.heap.size k).2.1.2 (wrT w.heap.size k).2.1.2 (wrT w.heap.size k).2.2.2.2.1 (wrT w.heap.size k).2.2.2.2.2 (wrT w.heap.size k).2.2.2.2.2 none 0 0
      ∧ (wrT w.heap.size k).1 = (wrB N a k).choice ∧ (wrT w.heap.size k).2.2.1 = (wrB N a k).sum ∧ (wrT w.heap.size k).2.2.2.1 = (wrB N a k).bound := by
  have ia : I64 a := by constructor <;> omega
  have iN : I64 (N + 1) := by constructor <;> omega
  have im : I64 (-a) := by constructor <;> omega
  have i2 : ∀ x ∈ [a, N + 1], I64 x := fun x hx => by
    rcases List.mem_cons.1 hx with rfl | hx
    · exact ia
    · have : x = N + 1 := by simpa using hx
      subst this; exact iN
  have i1 : I64 1 := by simp [I64]
  match k, hk with
  | 0, _ => exact ⟨⟨sl_ints [a, N + 1] (allocs_blk 0 rfl) rfl (by change 2 ≤ _; omega) i2, i64_0, SlIs.nil _ _, SlIs.nil _ _⟩, rfl, rfl, rfl⟩
  | 1, _ => exact ⟨⟨sl_ints [a] (allocs_blk 1 rfl) rfl (by change 1 ≤ _; omega) (i64_one ia), i64_0, SlIs.nil _ _, SlIs.nil _ _⟩, rfl, rfl, rfl⟩
  | 2, _ => exact ⟨⟨sl_ints [a] (allocs_blk 2 rfl) rfl (by change 1 ≤ _; omega) (i64_one ia), i64_0, sl_ints [-a] (allocs_blk 3 rfl) rfl (by change 1 ≤ _; omega) (i64_one im), SlIs.nil _ _⟩, rfl, rfl, rfl⟩
  | 3, _ => exact ⟨⟨sl_ints [N + 1] (allocs_blk 4 rfl) rfl (by change 1 ≤ _; omega) (i64_one iN), i64_0, SlIs.nil _ _, SlIs.nil _ _⟩, rfl, rfl, rfl⟩
  | 4, _ => exact ⟨⟨sl_ints [a] (allocs_blk 5 rfl) rfl (by change 1 ≤ _; omega) (i64_one ia), i1, SlIs.nil _ _, SlIs.nil _ _⟩, rfl, rfl, rfl⟩
  | 5, _ => exact ⟨⟨SlIs.nil _ _, i64_0, sl_ints [0] (allocs_blk 6 rfl) rfl (by change 1 ≤ _; omega) (i64_one i64_0), SlIs.nil _ _⟩, rfl, rfl, rfl⟩
  | 6, _ => exact ⟨⟨sl_ints [a] (allocs_blk 7 rfl) rfl (by change 1 ≤ _; omega) (i64_one ia), i64_0, sl_ints [a] (allocs_blk 8 rfl) rfl (by change 1 ≤ _; omega) (i64_one ia), SlIs.nil _ _⟩, rfl, rfl, rfl⟩
  | k + 7, hk => omega
/-- The list of the two rules, where the row lies at g and the first rule's head at e. -/
theorem wr_row {W : World} {g e : Nat} {a N : Int} {h k : Nat} (hr : Blk W g 26 (wrRow e (wrT h k))) (he : Blk W e 3 #[.int .i64 a]) (ia : I64 a)
    (hb : RuleIn W (wrB N a k) (wrT h k).2.1.1 (wrT h k).2.1.2 (wrT h k).2.1.2 (wrT h k).2.2.2.2.1 (wrT h k).2.2.2.2.2 (wrT h k).2.2.2.2.2 none 0 0)
    (e1 : (wrT h k).1 = (wrB N a k).choice) (e2 : (wrT h k).2.2.1 = (wrB N a k).sum) (e3 : (wrT h k).2.2.2.1 = (wrB N a k).bound) : SlIs ruleR W (some ⟨g, 0, none⟩) 2 2 [wrR0 a, wrB N a k] := by
  unfold wrRow at hr
  rw [e1, e2, e3] at hr
  exact sl_two (r := wrR0 a) hr ⟨sl_ints [a] he rfl (by simp) (i64_one ia), i64_0, SlIs.nil _ _, SlIs.nil _ _⟩ hb
theorem wr_two (w : World) (a N : Int) (h1 : 1 ≤ a) (h2 : a ≤ N) (h3 : N ≤ 12) (k : Nat) (hk : k < 7) : SlIs ruleR (allocs w (wrL a N w.heap.size k)) (some ⟨w.heap.size + 11, 0, none⟩) 2 2 [wrR0 a, wrB N a k] := by
  obtain ⟨hb, e1, e2, e3⟩ := wr_bad w a N h1 h2 h3 k hk
  exact wr_row (allocs_blk 11 rfl) (allocs_blk 10 rfl) (by constructor <;> omega) hb e1 e2 e3
def wrL2 (a : Int) (h k g : Nat) : List Obj := [.cells #[.int .i64 a] 3, .cells (wrRow g (wrT h k)) 26]
theorem wr_two2 (w W : World) (a N : Int) (h1 : 1 ≤ a) (h2 : a ≤ N) (h3 : N ≤ 12) (k : Nat) (hk : k < 7) (hB : Below (allocs w (wrL a N w.heap.size k)).heap.size (allocs w (wrL a N w.heap.size k)) W) : SlIs ruleR (allocs W (wrL2 a w.heap.size k W.heap.size)) (some ⟨W.heap.size + 1, 0, none⟩) 2 2 [wrR0 a, wrB N a k] := by
  obtain ⟨hb, e1, e2, e3⟩ := wr_bad w a N h1 h2 h3 k hk
  exact wr_row (allocs_blk 1 rfl) (allocs_blk 0 rfl) (by constructor <;> omega) (hb.ext (bel_trans hB (allocs_bel _ _))) e1 e2 e3
theorem rcells {W : World} {b : Nat} {v0 v1 v2 v3 v4 v5 : Value} (h : Blk W b 26 #[v0, v1, v2, v3, v4, v5]) : W.cell? ⟨b, 0, none⟩ = some v0 ∧ W.cell? ⟨b, 1, none⟩ = some v1 ∧ W.cell? ⟨b, 2, none⟩ = some v2 ∧ W.cell? ⟨b, 3, none⟩ = some v3 ∧ W.cell? ⟨b, 4, none⟩ = some v4 ∧ W.cell? ⟨b, 5, none⟩ = some v5 ∧ b < W.heap.size := ⟨h.cell 0, h.cell 1, h.cell 2, h.cell 3, h.cell 4, h.cell 5, h.lt⟩
theorem wr_ix0 (v0 v1 v2 v3 v4 v5 v6 v7 v8 v9 v10 v11 v12 v13 v14 v15 v16 v17 v18 v19 v20 v21 v22 v23 v24 v25 v26 v27 v28 v29 v30 v31 v32 v33 v34 v35 v36 v37 v38 v39 v40 v41 : Value) (W : World) : (Instr.index 51 (.agg #[v0, v1, v2, v3, v4, v5, v6, v7, v8, v9, v10, v11, v12, v13, v14, v15, v16, v17, v18, v19, v20, v21, v22, v23, v24, v25, v26, v27, v28, v29, v30, v31, v32, v33, v34, v35, v36, v37, v38, v39, v40, v41]) (.int .u8 0)).run Try.prog W = .ok (.agg #[v0, v1, v2, v3, v4, v5]) W := by kernel_rfl
theorem wr_ix1 (v0 v1 v2 v3 v4 v5 v6 v7 v8 v9 v10 v11 v12 v13 v14 v15 v16 v17 v18 v19 v20 v21 v22 v23 v24 v25 v26 v27 v28 v29 v30 v31 v32 v33 v34 v35 v36 v37 v38 v39 v40 v41 : Value) (W : World) : (Instr.index 51 (.agg #[v0, v1, v2, v3, v4, v5, v6, v7, v8, v9, v10, v11, v12, v13, v14, v15, v16, v17, v18, v19, v20, v21, v22, v23, v24, v25, v26, v27, v28, v29, v30, v31, v32, v33, v34, v35, v36, v37, v38, v39, v40, v41]) (.int .u8 1)).run Try.prog W = .ok (.agg #[v6, v7, v8, v9, v10, v11]) W := by kernel_rfl
theorem wr_ix2 (v0 v1 v2 v3 v4 v5 v6 v7 v8 v9 v10 v11 v12 v13 v14 v15 v16 v17 v18 v19 v20 v21 v22 v23 v24 v25 v26 v27 v28 v29 v30 v31 v32 v33 v34 v35 v36 v37 v38 v39 v40 v41 : Value) (W : World) : (Instr.index 51 (.agg #[v0, v1, v2, v3, v4, v5, v6, v7, v8, v9, v10, v11, v12, v13, v14, v15, v16, v17, v18, v19, v20, v21, v22, v23, v24, v25, v26, v27, v28, v29, v30, v31, v32, v33, v34, v35, v36, v37, v38, v39, v40, v41]) (.int .u8 2)).run Try.prog W = .ok (.agg #[v12, v13, v14, v15, v16, v17]) W := by kernel_rfl
theorem wr_ix3 (v0 v1 v2 v3 v4 v5 v6 v7 v8 v9 v10 v11 v12 v13 v14 v15 v16 v17 v18 v19 v20 v21 v22 v23 v24 v25 v26 v27 v28 v29 v30 v31 v32 v33 v34 v35 v36 v37 v38 v39 v40 v41 : Value) (W : World) : (Instr.index 51 (.agg #[v0, v1, v2, v3, v4, v5, v6, v7, v8, v9, v10, v11, v12, v13, v14, v15, v16, v17, v18, v19, v20, v21, v22, v23, v24, v25, v26, v27, v28, v29, v30, v31, v32, v33, v34, v35, v36, v37, v38, v39, v40, v41]) (.int .u8 3)).run Try.prog W = .ok (.agg #[v18, v19, v20, v21, v22, v23]) W := by kernel_rfl
theorem wr_ix4 (v0 v1 v2 v3 v4 v5 v6 v7 v8 v9 v10 v11 v12 v13 v14 v15 v16 v17 v18 v19 v20 v21 v22 v23 v24 v25 v26 v27 v28 v29 v30 v31 v32 v33 v34 v35 v36 v37 v38 v39 v40 v41 : Value) (W : World) : (Instr.index 51 (.agg #[v0, v1, v2, v3, v4, v5, v6, v7, v8, v9, v10, v11, v12, v13, v14, v15, v16, v17, v18, v19, v20, v21, v22, v23, v24, v25, v26, v27, v28, v29, v30, v31, v32, v33, v34, v35, v36, v37, v38, v39, v40, v41]) (.int .u8 4)).run Try.prog W = .ok (.agg #[v24, v25, v26, v27, v28, v29]) W := by kernel_rfl
theorem wr_ix5 (v0 v1 v2 v3 v4 v5 v6 v7 v8 v9 v10 v11 v12 v13 v14 v15 v16 v17 v18 v19 v20 v21 v22 v23 v24 v25 v26 v27 v28 v29 v30 v31 v32 v33 v34 v35 v36 v37 v38 v39 v40 v41 : Value) (W : World) : (Instr.index 51 (.agg #[v0, v1, v2, v3, v4, v5, v6, v7, v8, v9, v10, v11, v12, v13, v14, v15, v16, v17, v18, v19, v20, v21, v22, v23, v24, v25, v26, v27, v28, v29, v30, v31, v32, v33, v34, v35, v36, v37, v38, v39, v40, v41]) (.int .u8 5)).run Try.prog W = .ok (.agg #[v30, v31, v32, v33, v34, v35]) W := by kernel_rfl
theorem wr_ix6 (v0 v1 v2 v3 v4 v5 v6 v7 v8 v9 v10 v11 v12 v13 v14 v15 v16 v17 v18 v19 v20 v21 v22 v23 v24 v25 v26 v27 v28 v29 v30 v31 v32 v33 v34 v35 v36 v37 v38 v39 v40 v41 : Value) (W : World) : (Instr.index 51 (.agg #[v0, v1, v2, v3, v4, v5, v6, v7, v8, v9, v10, v11, v12, v13, v14, v15, v16, v17, v18, v19, v20, v21, v22, v23, v24, v25, v26, v27, v28, v29, v30, v31, v32, v33, v34, v35, v36, v37, v38, v39, v40, v41]) (.int .u8 6)).run Try.prog W = .ok (.agg #[v36, v37, v38, v39, v40, v41]) W := by kernel_rfl
end Go.Proofs.Ytcbkkjcleiibfaa

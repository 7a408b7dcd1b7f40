/- Contracts: reduct.Reduct. -/
import Derived.Test.YtdkjanbfheehoaaGreatRda
import Derived.Test.YtdkjanbfheehoaaGreatRdb
import Derived.Maps.Own
namespace Go.Proofs.YtdkjanbfheehoaaGreat
open Go.RowKit Go.Shelf
attribute [local go_sem] Oper.semAt_some

theorem MemIn.keptM {A B : World} {a B0 : Nat} {t : TypeId} {ms : List Int} {M : List Nat} (h : MemIn A a ms) (hk : Kept M A B) (hb : Blk A B0 t #[.slice none 0 0]) (hM : ∀ k ∈ M, k = B0 ∨ A.heap.size ≤ k) : MemIn B a ms := by
  obtain ⟨Bm, n, f, h1, h2, h3⟩ := h
  have ha : a ∉ M := fun hm => by
    rcases hM _ hm with rfl | h
    · have := hb.cell 0
      rw [h1] at this; simp at this
    · have := World.block_lt_of_cell? _ _ h1; simp at this; omega
  have hB : Bm ∉ M := fun hm => by
    obtain ⟨D, ⟨es, clock, hh, _⟩, _⟩ := h2
    rcases hM _ hm with rfl | h
    · unfold Blk at hb; rw [hh] at hb; cases hb
    · rw [Array.getElem?_eq_none h] at hh; cases hh
  refine ⟨Bm, n, f, hk.cell h1 ha, ?_, h3⟩
  obtain ⟨D, ⟨es, clock, hh, r1⟩, r2⟩ := h2
  exact ⟨D, ⟨es, clock, (hk.block _ (Array.getElem?_eq_some_iff.1 hh).1 hB).trans hh, r1⟩, r2⟩
/-- The reduct has few rules. -/
theorem redOne_len (m : List Int) (r : GRule) (h : r.head.length ≤ 4000) : (redOne m r).length ≤ 4001 := by
  unfold redOne
  split
  · simp
  · split
    · rw [List.length_map]; have := List.length_filter_le (fun a => decide (a ∈ m)) r.head; omega
    · simp
theorem reductL_len (m : List Int) : ∀ (rs : List GRule), (∀ r ∈ rs, r.head.length ≤ 4000) → (reductL rs m).length ≤ 4001 * rs.length
  | [], _ => by simp [reductL]
  | r :: t, h => by
    have h1 := redOne_len m r (h r (by simp))
    have h2 := reductL_len m t fun x hx => h x (by simp [hx])
    have e : reductL (r :: t) m = redOne m r ++ reductL t m := by simp [reductL]
    rw [e, List.length_append, List.length_cons]; omega
theorem inc_len {n : Int} {xs : List Int} (h : incB n xs = true) (hn : n ≤ 4000) (hn0 : 0 ≤ n) : xs.length ≤ 4000 := by
  have hm := inc_mem h
  have hp : xs.Pairwise (· < ·) := by
    have h0 : ordGo n none xs = true := by unfold incB ordB at h; simp only [Bool.and_eq_true] at h; exact h.1
    exact (ord_pair n xs none h0 (fun x hx => (by have := (hm x hx).1; omega)) (fun _ e => by cases e)).1
  have := nodup_len n.toNat xs (pair_nodup hp) (fun x hx => by have := hm x hx; omega)
  omega
theorem bX_at {X W : World} {b : Nat} {t : TypeId} {cs : Array Value} (h : Blk X b t cs) (hb : Below X.heap.size X W) : Blk W b t cs ∧ b < W.heap.size := ⟨h.bel hb, (h.bel hb).lt⟩
set_option maxRecDepth 100000 in
set_option maxHeartbeats 4000000 in
theorem reduct_any (p : GProg) (nA : Option Addr) (nl nc : Nat) (sA : Option Addr) (sl sc : Nat) (rA : Option Addr) (rl rc : Nat) (mA : Option Addr) (ml mc : Nat) (xA : Option Addr) (xl xc : Nat) (m : List Int) (w : World) (hp : ProgIn w p nA nl nc sA sl sc rA rl rc mA ml mc) (hm : SlIs intR w xA xl xc m) (hv : checkE p m = 0) :
    Calls Tryz.prog 69 #[.agg #[.int .i64 p.n, .slice nA nl nc, .slice sA sl sc, .slice rA rl rc, .slice mA ml mc], .slice xA xl xc] w fun e w' => ∃ (A : Option Addr) (l c : Nat), e = .returned (.tuple #[.slice A l c, .int .i64 0]) ∧ SlIs ruleR w' A l c (reductL p.rules m) ∧ Below w.heap.size w w' := by
  have cC := fun W (hb : Below w.heap.size w W) => check_any p nA nl nc sA sl sc rA rl rc mA ml mc xA xl xc m W (hp.ext hb) (hm.ext hb)
  have cM := fun W (hb : Below w.heap.size w W) => member_any xA xl xc m W (hm.ext hb)
  rw [hv] at cC
  have hpi := (checkE_is hv).1
  have HP := Lib.hid hp; clear hp
  have HM := Lib.hid hm; clear hm
  have HV := Lib.hid hv; clear hv
  have CC := Lib.hid cC; clear cC
  have CM := Lib.hid cM; clear cM
  have HPI := Lib.hid hpi; clear hpi
  refine (callsIn_wide (n := 5)).1 ?_
  refine callsIn_of_wp_marks Tryz.func69 rfl trivial ?_ rfl
  simp only [Tryz.ntmps69, List.size_toArray, List.length_cons, List.length_nil, Nat.reduceAdd, Nat.reduceSub, Array.replicate_succ, Array.replicate_zero, List.push_toArray, List.append_toArray, List.nil_append, List.cons_append]
  gi_wp2_with fail
  refine ⟨trivial, ?_⟩
  refine (callsIn_wide.2 (CC.out _ (bel_alloc _ _))).mono ?_
  rintro e w1 ⟨rfl, hb1⟩
  have hbx := (Blk.new w 27 #[.int .i64 p.n, .slice nA nl nc, .slice sA sl sc, .slice rA rl rc, .slice mA ml mc]).bel hb1
  have k0 : w1.cell? ⟨w.heap.size, 0, none⟩ = some (.int .i64 p.n) := hbx.cell 0
  have k1 : w1.cell? ⟨w.heap.size, 1, none⟩ = some (.slice nA nl nc) := hbx.cell 1
  have k2 : w1.cell? ⟨w.heap.size, 2, none⟩ = some (.slice sA sl sc) := hbx.cell 2
  have k3 : w1.cell? ⟨w.heap.size, 3, none⟩ = some (.slice rA rl rc) := hbx.cell 3
  have k4 : w1.cell? ⟨w.heap.size, 4, none⟩ = some (.slice mA ml mc) := hbx.cell 4
  have hl1 := hbx.lt
  have HB1 := Lib.hid (bel_trans (bel_alloc _ _) hb1)
  clear hb1
  have HBX := Lib.hid hbx; clear hbx
  gi_wp2_with fail
  refine wpIn_wide.2 ?_
  have hX := bel_trans HB1.out (bel_alloc w1 (.cells #[.slice none 0 0] 24))
  have bX := Blk.new w1 24 #[.slice none 0 0]
  have sX : (w1.alloc (.cells #[.slice none 0 0] 24)).heap.size = w1.heap.size + 1 := by simp
  replace k0 := ((bel_alloc w1 (.cells #[.slice none 0 0] 24)).cell (p := ⟨w.heap.size, 0, none⟩) hl1).trans k0
  replace k1 := ((bel_alloc w1 (.cells #[.slice none 0 0] 24)).cell (p := ⟨w.heap.size, 1, none⟩) hl1).trans k1
  replace k2 := ((bel_alloc w1 (.cells #[.slice none 0 0] 24)).cell (p := ⟨w.heap.size, 2, none⟩) hl1).trans k2
  replace k3 := ((bel_alloc w1 (.cells #[.slice none 0 0] 24)).cell (p := ⟨w.heap.size, 3, none⟩) hl1).trans k3
  replace k4 := ((bel_alloc w1 (.cells #[.slice none 0 0] 24)).cell (p := ⟨w.heap.size, 4, none⟩) hl1).trans k4
  generalize w1.alloc (.cells #[.slice none 0 0] 24) = X at *
  have lX : w.heap.size < X.heap.size := by omega
  have HX := Lib.hid hX; clear hX
  have BX := Lib.hid bX; clear bX
  have SX := Lib.hid sX; clear sX
  first
    | go_region_with (first
    | (go_at_call 98; refine (CM.out _ ?_).mono ?_; exact HX.out.drew; rintro e w2 ⟨a, rfl, hmi, hb2⟩; have HB2 := Lib.hid hb2; have HMI := Lib.hid hmi; have k0' := (hb2.cell (p := ⟨w.heap.size, 0, none⟩) lX).trans k0; have k1' := (hb2.cell (p := ⟨w.heap.size, 1, none⟩) lX).trans k1; have k2' := (hb2.cell (p := ⟨w.heap.size, 2, none⟩) lX).trans k2; have k3' := (hb2.cell (p := ⟨w.heap.size, 3, none⟩) lX).trans k3; have k4' := (hb2.cell (p := ⟨w.heap.size, 4, none⟩) lX).trans k4; clear hb2 hmi)
    | (go_at_call 97; refine (reduced_any p nA nl nc sA sl sc rA rl rc mA ml mc _ _).mono ?_; rintro e w3 ⟨rfl, rfl⟩))
    | fail
  all_goals
    have hd2 : Below X.heap.size X w2 := (Below.refl _ _).drew.trans HB2.out
    have a1 := (bX_at BX.out hd2)
    have a2 := hd2.size
    have hW : Blk ((w2.alloc (.cells #[.int .i64 p.n, .slice nA nl nc, .slice sA sl sc, .slice rA rl rc, .slice mA ml mc] 27)).alloc (.cells #[.func (.func 129) #[] #[.pointer (some ⟨a, 0, none⟩)]] 95)) w2.heap.size 27 #[.int .i64 p.n, .slice nA nl nc, .slice sA sl sc, .slice rA rl rc, .slice mA ml mc] ∧
        Blk ((w2.alloc (.cells #[.int .i64 p.n, .slice nA nl nc, .slice sA sl sc, .slice rA rl rc, .slice mA ml mc] 27)).alloc (.cells #[.func (.func 129) #[] #[.pointer (some ⟨a, 0, none⟩)]] 95)) (w2.heap.size + 1) 95 #[.func (.func 129) #[] #[.pointer (some ⟨a, 0, none⟩)]] ∧
        MemIn ((w2.alloc (.cells #[.int .i64 p.n, .slice nA nl nc, .slice sA sl sc, .slice rA rl rc, .slice mA ml mc] 27)).alloc (.cells #[.func (.func 129) #[] #[.pointer (some ⟨a, 0, none⟩)]] 95)) a m ∧
        Blk ((w2.alloc (.cells #[.int .i64 p.n, .slice nA nl nc, .slice sA sl sc, .slice rA rl rc, .slice mA ml mc] 27)).alloc (.cells #[.func (.func 129) #[] #[.pointer (some ⟨a, 0, none⟩)]] 95)) w1.heap.size 24 #[.slice none 0 0] ∧
        Below w.heap.size w ((w2.alloc (.cells #[.int .i64 p.n, .slice nA nl nc, .slice sA sl sc, .slice rA rl rc, .slice mA ml mc] 27)).alloc (.cells #[.func (.func 129) #[] #[.pointer (some ⟨a, 0, none⟩)]] 95)) ∧
        ((w2.alloc (.cells #[.int .i64 p.n, .slice nA nl nc, .slice sA sl sc, .slice rA rl rc, .slice mA ml mc] 27)).alloc (.cells #[.func (.func 129) #[] #[.pointer (some ⟨a, 0, none⟩)]] 95)).heap.size = w2.heap.size + 1 + 1 :=
      ⟨(blk_new rfl _ _).alloc _, blk_new (by simp) _ _, HMI.out.ext (bel_alloc2 _ _ _), (a1.1.alloc _).alloc _, bel_trans (bel_trans HX.out hd2) (bel_alloc2 _ _ _), by simp⟩
    have hw12 : w1.heap.size + 1 ≤ w2.heap.size := by have := SX.out; omega
    clear a2 a1
    have hww : w.heap.size < w1.heap.size := hl1
    gi_wp2_with fail
    generalize (w2.alloc (.cells #[.int .i64 p.n, .slice nA nl nc, .slice sA sl sc, .slice rA rl rc, .slice mA ml mc] 27)).alloc (.cells #[.func (.func 129) #[] #[.pointer (some ⟨a, 0, none⟩)]] 95) = W3 at *
    obtain ⟨e1, e2, e3, e4, e5, e6⟩ := hW
    clear k0 k1 k2 k3 k4 k0' k1' k2' k3' k4'
    have hlen : (reductL p.rules m).length ≤ 160040000 := by
      have h1 := reductL_len m p.rules fun r hr => inc_len (HPI.out.rules r hr).head (HPI.out.rules r hr).n1 (HPI.out.rules r hr).n0
      have h2 := HPI.out.few
      omega
    refine wpIn_rangeM rfl (by omega) (gf := 127) (lb := #[.pointer (some ⟨w2.heap.size, 0, none⟩), .pointer (some ⟨w2.heap.size + 1, 0, none⟩)]) rfl trivial (enters_of Tryz.func127 (by kernel_rfl) rfl)
      (red1_iter 4 (by omega) p w2.heap.size (w2.heap.size + 1) a (fun _ => undef) rA rl rc m [w1.heap.size] w W3 HP.out.rules e5 (fun q hq => by simp at hq; omega)
        (fun M W hM hk => ⟨hk.cell (e1.cell 3) (fun hm => by rcases hM _ hm with h | h; simp at h; omega; simp at h; omega), hk.cell (e2.cell 0) (fun hm => by rcases hM _ hm with h | h; simp at h; omega; simp at h; omega), e3.keptM hk e4 (fun q hq => by simpa using hM q hq)⟩)
        HPI.out.rules)
      (fun _ _ _ _ h => h.size) (fun _ _ _ _ _ _ h hs hk => h.go hs hk) (RI w w1.heap.size W3.heap.size) (fun _ _ _ => False)
      (fun _ _ _ _ h hb => h.bel hb) (fun _ _ _ _ h _ => h) (fun _ _ _ _ _ hk0 h hn hk => h.keep hn hk (Nat.le_trans e5.size hk0)) (fun _ _ _ _ _ _ h _ _ => h) (fun _ _ _ h => h.cells)
      ⟨.slice none 0 0, [], rfl, e4, ⟨World.ownsRow_nil _ _ _ _, fun i x hx => by simp at hx⟩, e5, Nat.le_refl _⟩
      (fun x args a' W => ∃ (Bx : Nat) (h b wt : Value), args = #[ruleV x h b wt] ∧ Blk W Bx 32 #[.bool x.choice, h, .bool x.sum, .int .i64 x.bound, b, wt] ∧ a' = { tmps := #[.agg #[.int .i64 p.n, .slice nA nl nc, .slice sA sl sc, .slice rA rl rc, .slice mA ml mc], .slice xA xl xc, .pointer (some ⟨w.heap.size, 0, none⟩), undef, .slice none 0 0, .int .i64 0, .int .i64 0, .pointer (some ⟨w1.heap.size, 0, none⟩), .pointer (some ⟨Bx, 0, none⟩), .agg #[.int .i64 p.n, .slice nA nl nc, .slice sA sl sc, .slice rA rl rc, .slice mA ml mc], .slice xA xl xc, .int .i64 0, .int .i64 0, .bool false, undef, .agg #[.int .i64 p.n, .slice nA nl nc, .slice sA sl sc, .slice rA rl rc, .slice mA ml mc], .slice xA xl xc, .func (.func 129) #[] #[.pointer (some ⟨a, 0, none⟩)], .func (.func 127) #[] #[.pointer (some ⟨w2.heap.size, 0, none⟩), .pointer (some ⟨w2.heap.size + 1, 0, none⟩)], ruleV x h b wt, undef, undef, undef, undef, undef], defers := [] })
      (fun x args a' A B k h hn hk => by
        obtain ⟨Bx, hh, b, wt, h1, h2, h3⟩ := h
        exact ⟨Bx, hh, b, wt, h1, hk.blk h2 (by have := blk_ne h2 hn; simp; omega), h3⟩)
      ?assign ?body ?done ?stop
    case assign =>
      intro l M pre x args W K hi hg hK
      obtain ⟨hA, hl, hc, bA, bl, bc, wA, wl, wc, rfl, hx, o1, o2, o3⟩ := hg
      have HI := Lib.hid hi; clear hi
      have HX := Lib.hid hx; clear hx
      have O1 := Lib.hid o1; clear o1
      have O2 := Lib.hid o2; clear o2
      have O3 := Lib.hid o3; clear o3
      have E1 := Lib.hid e1; clear e1
      have E2 := Lib.hid e2; clear e2
      have E3 := Lib.hid e3; clear e3
      have E4 := Lib.hid e4; clear e4
      have E5 := Lib.hid e5; clear e5
      have E6 := Lib.hid e6; clear e6
      gi_wp2
      exact hK _ _ (bel_alloc _ _) ⟨W.heap.size, _, _, _, rfl, Blk.new _ _ _, rfl⟩
    case body =>
      rintro l M pre x args a' W ⟨v, cs, rfl, hb, ho, hw, hbs⟩ hpf ⟨hA, hl, hc, bA, bl, bc, wA, wl, wc, rfl, hx, o1, o2, o3⟩ ⟨Bx, h, b, wt, he, bx, rfl⟩
      simp at he
      obtain ⟨rfl, rfl, rfl⟩ := he
      have hpl : pre.length < 1099511627776 := by have := hpf.length_le; simp at this; omega
      obtain ⟨v', w4, hrun, hown, hg4, hat⟩ := appR ho.1 (.bool x.choice) (.slice hA hl hc) (.bool x.sum) (.int .i64 x.bound) (.slice bA bl bc) (.slice wA wl wc) (by simp [Value.oneCell']) hpl hbs 24
      obtain ⟨g', cap', rfl, hgb, hgl⟩ := World.ownsRow.form hown (by omega)
      have hB0 : w1.heap.size < W3.heap.size := by omega
      have hro : some w1.heap.size ≠ v.ownBlock := fun e => by have := (ho.1.lt _ e.symm).1; omega
      have hbl := hb.lt
      have hc0 : W.cell? ⟨w1.heap.size, 0, none⟩ = some v := hb.cell 0
      have hc4 := (hg4.cell_far ⟨w1.heap.size, 0, none⟩ hbl hro).trans hc0
      have hf4 := (hg4.frozen_far ⟨w1.heap.size, 0, none⟩ hbl hro).trans (hb.frozen 0)
      have x0 : W.cell? ⟨Bx, 0, none⟩ = some (.bool x.choice) := bx.cell 0
      have x1 : W.cell? ⟨Bx, 1, none⟩ = some (.slice hA hl hc) := bx.cell 1
      have x2 : W.cell? ⟨Bx, 2, none⟩ = some (.bool x.sum) := bx.cell 2
      have x3 : W.cell? ⟨Bx, 3, none⟩ = some (.int .i64 x.bound) := bx.cell 3
      have x4 : W.cell? ⟨Bx, 4, none⟩ = some (.slice bA bl bc) := bx.cell 4
      have x5 : W.cell? ⟨Bx, 5, none⟩ = some (.slice wA wl wc) := bx.cell 5
      have kV : Kept [w1.heap.size] w4 (w4.setCell ⟨w1.heap.size, 0, none⟩ (.slice (some ⟨g', 0, none⟩) (pre.length + 1) cap')) := (Kept.refl _ _).set (.inl (by simp)) _
      have kM : Kept (MOf w1.heap.size v) W (w4.setCell ⟨w1.heap.size, 0, none⟩ (.slice (some ⟨g', 0, none⟩) (pre.length + 1) cap')) := ((Kept.refl _ W).grown hg4 (fun q hq => .inl (by unfold MOf; simp [hq]))).set (.inl (by simp [MOf])) _
      have hmV : ∀ k ∈ MOf w1.heap.size (.slice (some ⟨g', 0, none⟩) (pre.length + 1) cap'), k ∈ MOf w1.heap.size v ∨ W.heap.size ≤ k := fun k hk => by
        rcases MOf_mem hk with rfl | hv
        · exact .inl (by simp [MOf])
        · rcases hat k hv with h | h
          · exact .inl (by unfold MOf; simp [h])
          · exact .inr h
      have oV := ownsRow_keptS hown kV (fun q hq hm => by have := (hown.lt q hq).1; simp at hm; omega)
      have rV := ho.snoc hx o1 o2 o3 oV kM hmV
      have bV : Blk (w4.setCell ⟨w1.heap.size, 0, none⟩ (.slice (some ⟨g', 0, none⟩) (pre.length + 1) cap')) w1.heap.size 24 #[.slice (some ⟨g', 0, none⟩) (pre.length + 1) cap'] := (hb.grown hg4 hro).set_ 0 _
      have hwV : Below w.heap.size w (w4.setCell ⟨w1.heap.size, 0, none⟩ (.slice (some ⟨g', 0, none⟩) (pre.length + 1) cap')) := Kept.below hw kM hw.size (fun q hq => by
        rcases MOf_mem hq with rfl | hv
        · omega
        · have := (ho.1.lt q hv).1; omega)
      have hsV := kM.size
      have hfin : RI w w1.heap.size W3.heap.size (MOf w1.heap.size (.slice (some ⟨g', 0, none⟩) (pre.length + 1) cap')) (pre ++ [x]) (w4.setCell ⟨w1.heap.size, 0, none⟩ (.slice (some ⟨g', 0, none⟩) (pre.length + 1) cap')) := ⟨_, _, rfl, bV, rV, hwV, by omega⟩
      have HB := Lib.hid hb; clear hb
      have HO := Lib.hid ho; clear ho
      have HW := Lib.hid hw; clear hw
      have HPF := Lib.hid hpf; clear hpf
      have HX := Lib.hid hx; clear hx
      have O1 := Lib.hid o1; clear o1
      have O2 := Lib.hid o2; clear o2
      have O3 := Lib.hid o3; clear o3
      have BX := Lib.hid bx; clear bx
      have HRUN := Lib.hid hrun; clear hrun
      have HOWN := Lib.hid hown; clear hown
      have HG4 := Lib.hid hg4; clear hg4
      have HAT := Lib.hid hat; clear hat
      have HRO := Lib.hid hro; clear hro
      have KV := Lib.hid kV; clear kV
      have KM := Lib.hid kM; clear kM
      have HMV := Lib.hid hmV; clear hmV
      have OV := Lib.hid oV; clear oV
      have RV := Lib.hid rV; clear rV
      have BV := Lib.hid bV; clear bV
      have HWV := Lib.hid hwV; clear hwV
      have HFIN := Lib.hid hfin; clear hfin
      have E1 := Lib.hid e1; clear e1
      have E2 := Lib.hid e2; clear e2
      have E3 := Lib.hid e3; clear e3
      have E4 := Lib.hid e4; clear e4
      have E5 := Lib.hid e5; clear e5
      have E6 := Lib.hid e6; clear e6
      gi_wp2_with (gi_at_builtin; refine wpListIn_append_run rfl _ _ _ rfl _ _ rfl rfl _ _ HRUN.out ?_)
      exact ⟨_, HFIN.out, KM.out, HMV.out⟩
    case done =>
      intro D M W hD hi hdf
      obtain ⟨v, cs, rfl, hb, ho, hw, hbs⟩ := hi
      have hn : ∀ o, W.heap[D]? = some o → o.isCells = false := fun o h => by rw [hdf] at h; cases h; rfl
      have hkD := kept_putObj W D (.deferred none)
      obtain ⟨A, c, rfl, hsl⟩ := (ho.keep hn hkD).sl (by omega)
      have hbf : Below w.heap.size w (W.putObj D (.deferred none)) := Kept.below hw hkD hw.size (fun q hq => by simp at hq; have := e5.size; omega)
      have hc0 := hb.cell 0
      change W.cell? ⟨w1.heap.size, 0, none⟩ = some _ at hc0
      have HB := Lib.hid hb; clear hb
      have HO := Lib.hid ho; clear ho
      have HW := Lib.hid hw; clear hw
      have HBS := Lib.hid hbs; clear hbs
      have HSL := Lib.hid hsl; clear hsl
      have HN := Lib.hid hn; clear hn
      have HKD := Lib.hid hkD; clear hkD
      have HBF := Lib.hid hbf; clear hbf
      have E1 := Lib.hid e1; clear e1
      have E2 := Lib.hid e2; clear e2
      have E3 := Lib.hid e3; clear e3
      have E4 := Lib.hid e4; clear e4
      have E5 := Lib.hid e5; clear e5
      have E6 := Lib.hid e6; clear e6
      have HDF := Lib.hid hdf
      clear hdf
      gi_wp2_with fail
      refine ⟨by simp, .inl ⟨_, _, rfl, run_takeDeferred HDF.out, ?_⟩⟩
      exact ⟨_, results_tmp2 rfl _ _ _, _, _, _, rfl, HSL.out, HBF.out⟩
    case stop =>
      intro D c pre W _ _ h
      exact h.elim
end Go.Proofs.YtdkjanbfheehoaaGreat

/- Contract: stable.minimal. -/
import Derived.Test.YtdmcclfagjgcgaaGreatRdc
import Derived.Test.YtdmcclfagjgcgaaGreatSw1
import Derived.Test.YtdmcclfagjgcgaaGreatSw2
namespace Go.Proofs.YtdmcclfagjgcgaaGreat
open Go.RowKit Go.Shelf
attribute [local go_sem] Oper.semAt_some

set_option maxRecDepth 100000 in
set_option maxHeartbeats 1000000 in
theorem subsets_any (mA : Option Addr) (ml mc : Nat) (w : World) :
    Calls Tryz.prog 74 #[.slice mA ml mc] w fun e w' => e = .returned (.func (.func 122) #[] #[.pointer (some ⟨w.heap.size, 0, none⟩)]) ∧ w' = w.alloc (.cells #[.slice mA ml mc] 23) := by
  go_enter Tryz.func74, Tryz.ntmps74
  go_wp2
  go_ret
  exact ⟨rfl, rfl⟩
/-- A single result out of a cell. -/
theorem results_cell_one {P : Program} {fn : Func} {p : Tmp} {ty : TypeId} (h : fn.results = #[.cell p ty]) (tmps : Array Value) (w : World) (g : Nat) (v : Value)
    (hp : tmps.getD p undef = .pointer (some ⟨g, 0, none⟩)) (hl : (loadVar ty ⟨g, 0, none⟩).run P w = .ok v w) : (results fn tmps).run P w = .ok v w := by
  have hp' : tmps[p]?.getD undef = .pointer (some ⟨g, 0, none⟩) := by simpa using hp
  simp [results, h, hp', asAddr, hl]
theorem load_bool {w : World} {g : Nat} {b : Bool} (h : Blk w g 4 #[.bool b]) : (loadVar 4 ⟨g, 0, none⟩).run Tryz.prog w = .ok (.bool b) w := by
  have hc : w.cell? ⟨g, 0, none⟩ = some (.bool b) := h.cell 0
  simp [loadVar, hc, go_sem]
/-- What minimal answers, rules read as the program reads them. -/
def satCL (rs : List GRule) (s : List Int) : Bool := rs.all fun r => satC r s
def minC (rs : List GRule) (m : List Int) : Bool := match (subsL m).find? (satCL rs) with
  | some s => decide (s.length = m.length)
  | none => false
/-- While the subsets come: none has satisfied the rules. -/
def MinI (w : World) (rA : Option Addr) (rl rc : Nat) (mA : Option Addr) (ml mc : Nat) (rs : List GRule) (M : List Nat) (pre : List (List Int)) (W : World) : Prop :=
  M = [w.heap.size + 1 + 1] ∧ (∀ s ∈ pre, satCL rs s = false) ∧ Blk W w.heap.size 24 #[.slice rA rl rc] ∧ Blk W (w.heap.size + 1) 23 #[.slice mA ml mc] ∧ Blk W (w.heap.size + 1 + 1) 4 #[.bool false] ∧ Below w.heap.size w W
/-- One has: the answer is laid. -/
def MinX (w : World) (rs : List GRule) (ml : Nat) (c : Code) (pre : List (List Int)) (W : World) : Prop :=
  c = .ret ∧ (∃ p s, pre = p ++ [s] ∧ (∀ x ∈ p, satCL rs x = false) ∧ satCL rs s = true ∧ Blk W (w.heap.size + 1 + 1) 4 #[.bool (decide (s.length = ml))]) ∧ Below w.heap.size w W
theorem MinI.bel {w : World} {rA : Option Addr} {rl rc : Nat} {mA : Option Addr} {ml mc : Nat} {rs : List GRule} {M : List Nat} {pre : List (List Int)} {A B : World} (h : MinI w rA rl rc mA ml mc rs M pre A) (hb : Below A.heap.size A B) : MinI w rA rl rc mA ml mc rs M pre B :=
  ⟨h.1, h.2.1, h.2.2.1.bel hb, h.2.2.2.1.bel hb, h.2.2.2.2.1.bel hb, bel_trans h.2.2.2.2.2 hb⟩
theorem MinX.bel {w : World} {rs : List GRule} {ml : Nat} {c : Code} {pre : List (List Int)} {A B : World} (h : MinX w rs ml c pre A) (hb : Below A.heap.size A B) : MinX w rs ml c pre B := by
  obtain ⟨h1, ⟨p, s, e, h2, h3, h4⟩, h5⟩ := h
  exact ⟨h1, ⟨p, s, e, h2, h3, h4.bel hb⟩, bel_trans h5 hb⟩
theorem blk_keep {A B : World} {k g : Nat} {t : TypeId} {cs : Array Value} (h : Blk A g t cs) (hn : ∀ o, A.heap[k]? = some o → o.isCells = false) (hk : Kept [k] A B) : Blk B g t cs :=
  hk.blk h (by have := blk_ne h hn; simp; omega)
theorem MinI.keep {w : World} {rA : Option Addr} {rl rc : Nat} {mA : Option Addr} {ml mc : Nat} {rs : List GRule} {M : List Nat} {pre : List (List Int)} {A B : World} {k : Nat} (hw : w.heap.size ≤ k) (h : MinI w rA rl rc mA ml mc rs M pre A) (hn : ∀ o, A.heap[k]? = some o → o.isCells = false) (hk : Kept [k] A B) : MinI w rA rl rc mA ml mc rs M pre B :=
  ⟨h.1, h.2.1, blk_keep h.2.2.1 hn hk, blk_keep h.2.2.2.1 hn hk, blk_keep h.2.2.2.2.1 hn hk, Kept.below h.2.2.2.2.2 hk h.2.2.2.2.2.size (fun q hq => by simp at hq; omega)⟩
theorem MinX.keep {w : World} {rs : List GRule} {ml : Nat} {c : Code} {pre : List (List Int)} {A B : World} {k : Nat} (hw : w.heap.size ≤ k) (h : MinX w rs ml c pre A) (hn : ∀ o, A.heap[k]? = some o → o.isCells = false) (hk : Kept [k] A B) : MinX w rs ml c pre B := by
  obtain ⟨h1, ⟨p, s, e, h2, h3, h4⟩, h5⟩ := h
  exact ⟨h1, ⟨p, s, e, h2, h3, blk_keep h4 hn hk⟩, Kept.below h5 hk h5.size (fun q hq => by simp at hq; omega)⟩
set_option maxRecDepth 100000 in
set_option maxHeartbeats 4000000 in
theorem minimal_any (rA : Option Addr) (rl rc : Nat) (rs : List GRule) (mA : Option Addr) (ml mc : Nat) (ms : List Int) (w : World) (h : SlIs ruleR w rA rl rc rs) (hm : SlIs intR w mA ml mc ms) (hl : ml ≤ 12) :
    Calls Tryz.prog 82 #[.slice rA rl rc, .slice mA ml mc] w fun e w' => e = .returned (.bool (minC rs ms)) ∧ Below w.heap.size w w' := by
  have hmc := hm.cap
  have hmm := hm.max
  have H := Lib.hid h; clear h
  have HM := Lib.hid hm; clear hm
  refine (callsIn_wide (n := 5)).1 ?_
  refine callsIn_of_wp_marks Tryz.func82 rfl trivial ?_ rfl
  simp only [Tryz.ntmps82, List.size_toArray, List.length_cons, List.length_nil, Nat.reduceAdd, Nat.reduceSub, Array.replicate_succ, Array.replicate_zero, List.push_toArray, List.append_toArray, List.nil_append, List.cons_append]
  gi_wp2_with fail
  refine ⟨trivial, ?_⟩
  refine (callsIn_wide.2 (subsets_any mA ml mc _)).mono ?_
  rintro e w1 ⟨rfl, rfl⟩
  gi_wp2_with fail
  have hW : Blk ((((w.alloc (.cells #[.slice rA rl rc] 24)).alloc (.cells #[.slice mA ml mc] 23)).alloc (.cells #[.bool false] 4)).alloc (.cells #[.slice mA ml mc] 23)) w.heap.size 24 #[.slice rA rl rc] ∧ Blk ((((w.alloc (.cells #[.slice rA rl rc] 24)).alloc (.cells #[.slice mA ml mc] 23)).alloc (.cells #[.bool false] 4)).alloc (.cells #[.slice mA ml mc] 23)) (w.heap.size + 1) 23 #[.slice mA ml mc] ∧ Blk ((((w.alloc (.cells #[.slice rA rl rc] 24)).alloc (.cells #[.slice mA ml mc] 23)).alloc (.cells #[.bool false] 4)).alloc (.cells #[.slice mA ml mc] 23)) (w.heap.size + 1 + 1) 4 #[.bool false] ∧ Blk ((((w.alloc (.cells #[.slice rA rl rc] 24)).alloc (.cells #[.slice mA ml mc] 23)).alloc (.cells #[.bool false] 4)).alloc (.cells #[.slice mA ml mc] 23)) (w.heap.size + 1 + 1 + 1) 23 #[.slice mA ml mc] ∧ Below w.heap.size w ((((w.alloc (.cells #[.slice rA rl rc] 24)).alloc (.cells #[.slice mA ml mc] 23)).alloc (.cells #[.bool false] 4)).alloc (.cells #[.slice mA ml mc] 23)) ∧ ((((w.alloc (.cells #[.slice rA rl rc] 24)).alloc (.cells #[.slice mA ml mc] 23)).alloc (.cells #[.bool false] 4)).alloc (.cells #[.slice mA ml mc] 23)).heap.size = w.heap.size + 1 + 1 + 1 + 1 :=
    ⟨(((blk_new rfl _ _).alloc _).alloc _).alloc _, ((blk_new (by simp) _ _).alloc _).alloc _, (blk_new (by simp) _ _).alloc _, blk_new (by simp) _ _, bel_trans (bel_trans (bel_trans (bel_alloc _ _) (bel_alloc _ _)) (bel_alloc _ _)) (bel_alloc _ _), by simp⟩
  generalize ((((w.alloc (.cells #[.slice rA rl rc] 24)).alloc (.cells #[.slice mA ml mc] 23)).alloc (.cells #[.bool false] 4)).alloc (.cells #[.slice mA ml mc] 23)) = W3 at *
  obtain ⟨e1, e2, e3, e4, e5, e6⟩ := hW
  have hml := HM.out.len
  refine wpIn_rangeM rfl (by omega) (gf := 122) (lb := #[.pointer (some ⟨w.heap.size + 1 + 1 + 1, 0, none⟩)]) rfl trivial (enters_of Tryz.func122 (by kernel_rfl) rfl)
    (sub1_iter 4 (by omega) (w.heap.size + 1 + 1 + 1) mA ml mc ms [w.heap.size + 1 + 1] W3
      (fun M W hM hk => ⟨hk.cell (e4.cell 0) (fun hq => by rcases hM _ hq with h | h <;> simp at h <;> omega), (HM.out.ext e5).keptM hk (fun h0 ad e hq => by
        have h1 := HM.out.blk_lt h0 e
        rcases hM _ hq with h | h
        · simp at h; omega
        · omega)⟩) hl)
    (fun _ _ _ _ h => h.size) (fun _ _ _ _ _ _ h hs hk => h.go hs hk) (MinI w rA rl rc mA ml mc rs) (MinX w rs ml)
    (fun _ _ _ _ h hb => h.bel hb) (fun _ _ _ _ h hb => h.bel hb) (fun _ _ _ _ _ hk0 h hn hk => h.keep (Nat.le_trans e5.size hk0) hn hk) (fun _ _ _ _ _ hk0 h hn hk => h.keep (Nat.le_trans e5.size hk0) hn hk)
    (fun M pre W h k hk => by
      obtain ⟨rfl, _, _, _, h3, _⟩ := h
      simp at hk; subst hk
      exact ⟨_, h3, rfl⟩)
    ⟨rfl, by simp, e1, e2, e3, e5⟩
    (fun x args a' W => ∃ (A : Option Addr) (l c : Nat), args = #[.slice A l c] ∧ a' = { tmps := #[.slice rA rl rc, .slice mA ml mc, .pointer (some ⟨w.heap.size, 0, none⟩), .pointer (some ⟨w.heap.size + 1, 0, none⟩), .pointer (some ⟨w.heap.size + 1 + 1, 0, none⟩), .slice A l c, .slice mA ml mc, .func (.func 122) #[] #[.pointer (some ⟨w.heap.size + 1 + 1 + 1, 0, none⟩)], .slice A l c, undef, undef, undef, undef, undef, undef, undef, undef], defers := [] })
    (fun _ _ _ _ _ _ h _ _ => h)
    ?assign ?body ?done ?stop
  case assign =>
    intro l M pre x args W K hi hg hK
    obtain ⟨A, l', c, rfl, hs, ho⟩ := hg
    have HI := Lib.hid hi; clear hi
    have HS := Lib.hid hs; clear hs
    have HO := Lib.hid ho; clear ho
    have E1 := Lib.hid e1; clear e1
    have E2 := Lib.hid e2; clear e2
    have E3 := Lib.hid e3; clear e3
    have E4 := Lib.hid e4; clear e4
    have E5 := Lib.hid e5; clear e5
    have E6 := Lib.hid e6; clear e6
    have HML := Lib.hid hml; clear hml
    gi_wp2
    exact hK _ _ (Below.refl _ _) ⟨A, l', c, rfl, rfl⟩
  case body =>
    rintro l M pre x args a' W ⟨rfl, hpre, b1, b2, b3, hw⟩ hpf ⟨A, l', c, rfl, hs, ho⟩ ⟨A2, l2, c2, he, rfl⟩
    simp at he
    obtain ⟨rfl, rfl, rfl⟩ := he
    have k0 : W.cell? ⟨w.heap.size, 0, none⟩ = some (.slice rA rl rc) := b1.cell 0
    have cS := satisfies_any rA rl rc rs A l' c x W (H.out.ext hw) hs
    have hxl := hs.len
    have hxc := hs.cap
    have hxm := hs.max
    change Calls _ _ _ _ fun e w' => e = .returned (.bool (satCL rs x)) ∧ Below W.heap.size W w' at cS
    cases hsat : satCL rs x with
    | false =>
      rw [hsat] at cS
      have HPRE := Lib.hid hpre; clear hpre
      have B1 := Lib.hid b1; clear b1
      have B2 := Lib.hid b2; clear b2
      have B3 := Lib.hid b3; clear b3
      have HW := Lib.hid hw; clear hw
      have HPF := Lib.hid hpf; clear hpf
      have HS := Lib.hid hs; clear hs
      have HO := Lib.hid ho; clear ho
      have CS := Lib.hid cS; clear cS
      have HSAT := Lib.hid hsat; clear hsat
      have E1 := Lib.hid e1; clear e1
      have E2 := Lib.hid e2; clear e2
      have E3 := Lib.hid e3; clear e3
      have E4 := Lib.hid e4; clear e4
      have E5 := Lib.hid e5; clear e5
      have E6 := Lib.hid e6; clear e6
      have HXL := Lib.hid hxl; clear hxl
      have HML := Lib.hid hml; clear hml
      gi_wp2_with fail
      refine ⟨trivial, ?_⟩
      refine (callsIn_wide.2 CS.out).mono ?_
      rintro e w2 ⟨rfl, hb2⟩
      have HB2 := Lib.hid hb2
      clear hb2
      gi_wp2_with fail
      exact ⟨_, ⟨rfl, fun s hs => by
        rcases List.mem_append.1 hs with h | h
        · exact HPRE.out s h
        · simp at h; subst h; exact HSAT.out, B1.out.bel HB2.out, B2.out.bel HB2.out, B3.out.bel HB2.out, bel_trans HW.out HB2.out⟩, Kept.of_below HB2.out _, fun k hk => .inl hk⟩
    | true =>
      rw [hsat] at cS
      have HPRE := Lib.hid hpre; clear hpre
      have B1 := Lib.hid b1; clear b1
      have B2 := Lib.hid b2; clear b2
      have B3 := Lib.hid b3; clear b3
      have HW := Lib.hid hw; clear hw
      have HPF := Lib.hid hpf; clear hpf
      have HS := Lib.hid hs; clear hs
      have HO := Lib.hid ho; clear ho
      have CS := Lib.hid cS; clear cS
      have HSAT := Lib.hid hsat; clear hsat
      have E1 := Lib.hid e1; clear e1
      have E2 := Lib.hid e2; clear e2
      have E3 := Lib.hid e3; clear e3
      have E4 := Lib.hid e4; clear e4
      have E5 := Lib.hid e5; clear e5
      have E6 := Lib.hid e6; clear e6
      have HXL := Lib.hid hxl; clear hxl
      have HML := Lib.hid hml; clear hml
      gi_wp2_with fail
      refine ⟨trivial, ?_⟩
      refine (callsIn_wide.2 CS.out).mono ?_
      rintro e w2 ⟨rfl, hb2⟩
      have d2 := B2.out.bel hb2
      have d3 := B3.out.bel hb2
      have k1 : w2.cell? ⟨w.heap.size + 1, 0, none⟩ = some (.slice mA ml mc) := d2.cell 0
      have k2 : w2.cell? ⟨w.heap.size + 1 + 1, 0, none⟩ = some (.bool false) := d3.cell 0
      have k3 : w2.frozen? ⟨w.heap.size + 1 + 1, 0, none⟩ = false := d3.frozen 0
      have hbe : ((l' : Int) == (ml : Int)) = decide (x.length = ml) := by rw [HXL.out, Bool.eq_iff_iff]; simp; omega
      have HB2 := Lib.hid hb2
      clear hb2
      have D2 := Lib.hid d2; clear d2
      have D3 := Lib.hid d3; clear d3
      have HBE := Lib.hid hbe; clear hbe
      gi_wp2_with fail
      refine ⟨⟨rfl, ⟨pre, x, rfl, HPRE.out, HSAT.out, ?_⟩, ?_⟩, ?_⟩
      · rw [HBE.out]; exact D3.out.set_ 0 _
      · exact Kept.below (bel_trans HW.out HB2.out) ((Kept.refl [w.heap.size + 1 + 1] w2).set (.inl (by simp)) _) (bel_trans HW.out HB2.out).size (fun q hq => by simp at hq; omega)
      · exact (Kept.of_below HB2.out _).set (.inl (by simp)) _
  case done =>
    intro D M W hD hi hdf
    obtain ⟨rfl, hpre, b1, b2, b3, hw⟩ := hi
    have hn : ∀ o, W.heap[D]? = some o → o.isCells = false := fun o h => by rw [hdf] at h; cases h; rfl
    have k2 : W.cell? ⟨w.heap.size + 1 + 1, 0, none⟩ = some (.bool false) := b3.cell 0
    have k3 : W.frozen? ⟨w.heap.size + 1 + 1, 0, none⟩ = false := b3.frozen 0
    have hDn : D ≠ w.heap.size + 1 + 1 := blk_ne b3 hn
    have hdf2 : (W.setCell ⟨w.heap.size + 1 + 1, 0, none⟩ (.bool false)).heap[D]? = some (.deferred (some [])) := (Below.heap_setCell W ⟨w.heap.size + 1 + 1, 0, none⟩ _ D hDn).trans hdf
    have hk1 : Kept [w.heap.size + 1 + 1] W (W.setCell ⟨w.heap.size + 1 + 1, 0, none⟩ (.bool false)) := (Kept.refl _ _).set (.inl (by simp)) _
    have hb4 : Blk (W.setCell ⟨w.heap.size + 1 + 1, 0, none⟩ (.bool false)) (w.heap.size + 1 + 1) 4 #[.bool false] := b3.set_ 0 _
    have hkD := kept_putObj (W.setCell ⟨w.heap.size + 1 + 1, 0, none⟩ (.bool false)) D (.deferred none)
    have hb5 : Blk ((W.setCell ⟨w.heap.size + 1 + 1, 0, none⟩ (.bool false)).putObj D (.deferred none)) (w.heap.size + 1 + 1) 4 #[.bool false] := hkD.blk hb4 (by simp; omega)
    have hbf : Below w.heap.size w ((W.setCell ⟨w.heap.size + 1 + 1, 0, none⟩ (.bool false)).putObj D (.deferred none)) := Kept.below (Kept.below hw hk1 hw.size (fun q hq => by simp at hq; omega)) hkD (Nat.le_trans hw.size hk1.size) (fun q hq => by simp at hq; have := e5.size; omega)
    have hmin : minC rs ms = false := by
      unfold minC
      rw [List.find?_eq_none.2 fun s hs => by rw [hpre s hs]; simp]
    have HPRE := Lib.hid hpre; clear hpre
    have B1 := Lib.hid b1; clear b1
    have B2 := Lib.hid b2; clear b2
    have B3 := Lib.hid b3; clear b3
    have HW := Lib.hid hw; clear hw
    have HN := Lib.hid hn; clear hn
    have E1 := Lib.hid e1; clear e1
    have E2 := Lib.hid e2; clear e2
    have E3 := Lib.hid e3; clear e3
    have E4 := Lib.hid e4; clear e4
    have E5 := Lib.hid e5; clear e5
    have E6 := Lib.hid e6; clear e6
    have HML := Lib.hid hml; clear hml
    have HDF2 := Lib.hid hdf2; clear hdf2
    have HK1 := Lib.hid hk1; clear hk1
    have HB4 := Lib.hid hb4; clear hb4
    have HKD := Lib.hid hkD; clear hkD
    have HB5 := Lib.hid hb5; clear hb5
    have HBF := Lib.hid hbf; clear hbf
    have HMIN := Lib.hid hmin; clear hmin
    have HDF := Lib.hid hdf
    clear hdf
    gi_wp2_with fail
    refine ⟨by simp, .inl ⟨_, _, rfl, run_takeDeferred HDF2.out, ?_⟩⟩
    exact ⟨_, results_cell_one rfl _ _ (w.heap.size + 1 + 1) (.bool false) rfl (load_bool HB5.out), by rw [HMIN.out], HBF.out⟩
  case stop =>
    intro D c pre W hD hpre hx hdf
    obtain ⟨rfl, ⟨p, s, rfl, hp1, hp2, b3⟩, hw⟩ := hx
    have hn : ∀ o, W.heap[D]? = some o → o.isCells = false := fun o h => by rw [hdf] at h; cases h; rfl
    have hDn : D ≠ w.heap.size + 1 + 1 := blk_ne b3 hn
    have hkD := kept_putObj W D (.deferred none)
    have hb5 : Blk (W.putObj D (.deferred none)) (w.heap.size + 1 + 1) 4 #[.bool (decide (s.length = ml))] := hkD.blk b3 (by simp; omega)
    have hbf : Below w.heap.size w (W.putObj D (.deferred none)) := Kept.below hw hkD hw.size (fun q hq => by simp at hq; have := e5.size; omega)
    have hmin : minC rs ms = decide (s.length = ml) := by
      obtain ⟨t, ht⟩ := hpre
      have hf : (subsL ms).find? (satCL rs) = some s := List.find?_eq_some_iff_append.2 ⟨hp2, p, t, by rw [← ht]; simp, fun x hx => by rw [hp1 x hx]; rfl⟩
      unfold minC
      rw [hf, hml]
    have HPRE := Lib.hid hpre; clear hpre
    have B3 := Lib.hid b3; clear b3
    have HW := Lib.hid hw; clear hw
    have HN := Lib.hid hn; clear hn
    have E1 := Lib.hid e1; clear e1
    have E2 := Lib.hid e2; clear e2
    have E3 := Lib.hid e3; clear e3
    have E4 := Lib.hid e4; clear e4
    have E5 := Lib.hid e5; clear e5
    have E6 := Lib.hid e6; clear e6
    have HML := Lib.hid hml; clear hml
    have HKD := Lib.hid hkD; clear hkD
    have HB5 := Lib.hid hb5; clear hb5
    have HBF := Lib.hid hbf; clear hbf
    have HMIN := Lib.hid hmin; clear hmin
    have HP1 := Lib.hid hp1; clear hp1
    have HP2 := Lib.hid hp2; clear hp2
    have HDF := Lib.hid hdf
    clear hdf
    gi_wp2_with fail
    refine ⟨by simp, .inl ⟨_, _, rfl, run_takeDeferred HDF.out, ?_⟩⟩
    exact ⟨_, results_cell_one rfl _ _ (w.heap.size + 1 + 1) (.bool (decide (s.length = ml))) rfl (load_bool HB5.out), by rw [HMIN.out], HBF.out⟩
end Go.Proofs.YtdmcclfagjgcgaaGreat

/- The contract of ostlerlaw19.definite. -/
import Derived.Test.YtcbkkjcleiibfaaMon
import Derived.Test.YtcbkkjcleiibfaaRdb
import Derived.Test.YtcbkkjcleiibfaaStp
import Derived.Deep.RegionHeld3
namespace Go.Proofs.Ytcbkkjcleiibfaa
open Go.RowKit

theorem rcells' {W : World} {b : Nat} {v0 v1 v2 v3 v4 v5 : Value} (h : Blk W b 26 #[v0, v1, v2, v3, v4, v5]) : W.cell? ⟨b, 0, none⟩ = some v0 ∧ W.cell? ⟨b, 1, none⟩ = some v1 ∧ W.cell? ⟨b, 2, none⟩ = some v2 ∧ W.cell? ⟨b, 3, none⟩ = some v3 ∧ W.cell? ⟨b, 4, none⟩ = some v4 ∧ W.cell? ⟨b, 5, none⟩ = some v5 ∧ b < W.heap.size := ⟨h.cell 0, h.cell 1, h.cell 2, h.cell 3, h.cell 4, h.cell 5, h.lt⟩
/-- The front of a slice. -/
theorem sl_take {α : Type} {R : Rep α} {w : World} {A : Option Addr} {l c : Nat} {xs : List α} (h : SlIs R w A l c xs) (k : Nat) {q : Nat} (hq : q = min l k) : SlIs R w A q c (xs.take k) := by
  subst hq
  refine ⟨by rw [List.length_take, h.1]; omega, by have := h.2.1; omega, by have := h.2.2.1; omega, fun h0 => ?_⟩
  obtain ⟨ad, e, hl, hc⟩ := h.2.2.2 (by omega)
  refine ⟨ad, e, hl, fun i x hx => hc i x ?_⟩
  rw [List.getElem?_take] at hx
  split at hx
  · exact hx
  · cases hx

theorem OutRow.bel {base : Nat} {v : Value} {cs : List Value} {M : List Nat} {pre : List GRule} {A B : World} (h : OutRow A base v cs M pre) (hb : Below A.heap.size A B) : OutRow B base v cs M pre :=
  h.keep (k := A.heap.size) (fun o e => by simp at e) (Kept.of_below hb _)

set_option maxRecDepth 100000 in
set_option maxHeartbeats 4000000 in
theorem lawDefinite_any (rA : Option Addr) (rl rc : Nat) (rs : List GRule) (n : Int) (w : World) (h : SlIs ruleR w rA rl rc rs) (hR : ∀ r ∈ rs, r.sum = true → r.w.length = r.body.length) (hl : rl ≤ 40000) :
    Calls Try.prog 24 #[.int .i64 n, .slice rA rl rc] w fun e w' => ∃ A c, e = .returned (.slice A rl c) ∧ SlIs ruleR w' A rl c (defL rs) ∧ Below w.heap.size w w' := by
  have hrc := h.cap
  have hrm := h.max
  have H := Lib.hid h; clear h
  have HR := Lib.hid hR; clear hR
  go_enter Try.func24, Try.ntmps24
  go_wp2_with fail
  go_loopw [5, 13] (fun v t wr => ∃ (k : Nat) (cs : List Value), k ≤ rl ∧ t = .int .i64 (k : Int) ∧ OutRow wr w.heap.size v cs v.ownBlock.toList (defL (rs.take k)) ∧ Below w.heap.size w wr) (fun _ t _ => rl - (intOf t).toNat)
  case atStart => exact ⟨0, [], Nat.zero_le _, rfl, ⟨World.ownsRow_nil _ _ _ _, by simp [defL]⟩, Below.refl _ _⟩
  case round =>
    obtain ⟨k, cs, hk, rfl, ho, hb⟩ := hrel
    by_cases hlt : k < rl
    · obtain ⟨r, hri, -⟩ := H.out.drop hlt
      obtain ⟨bb, off, hA, hl', hc, bA, bl, bc, wA, wl, wc, rfl, hbl2, x0, x1, x2, x3, x4, x5, g1, g2, g3, g4⟩ := H.out.rule hri
      have d0 := (hb.cell (World.block_lt_of_cell? _ _ x0)).trans x0
      have d1 := (hb.cell (World.block_lt_of_cell? _ _ x1)).trans x1
      have d2 := (hb.cell (World.block_lt_of_cell? _ _ x2)).trans x2
      have d3 := (hb.cell (World.block_lt_of_cell? _ _ x3)).trans x3
      have d4 := (hb.cell (World.block_lt_of_cell? _ _ x4)).trans x4
      have d5 := (hb.cell (World.block_lt_of_cell? _ _ x5)).trans x5
      clear x0 x1 x2 x3 x4 x5
      have k0 : (0 : Int) ≤ (k : Int) := by omega
      have k1 : (k : Int) < (rl : Int) := by omega
      have hc1 := g1.cap
      have hc2 := g1.max
      have bc1 := g3.cap
      have bc2 := g3.max
      have wc1 := g4.cap
      have wc2 := g4.max
      obtain ⟨q, hq⟩ : ∃ q : Nat, q = min hl' 1 := ⟨_, rfl⟩
      have gq := sl_take g1 1 hq
      have hmin : min (hl' : Int) 1 = (q : Int) := by omega
      have q0 : (0 : Int) ≤ (q : Int) := by omega
      have q1 : (q : Int) ≤ (hc : Int) := by omega
      have HQ := Lib.hid hq
      clear hq
      have hwl := HR.out r (List.mem_of_getElem? hri)
      have HRI := Lib.hid hri; clear hri
      have G1 := Lib.hid g1; clear g1
      have G2 := Lib.hid g2; clear g2
      have G3 := Lib.hid g3; clear g3
      have G4 := Lib.hid g4; clear g4
      have GQ := Lib.hid gq; clear gq
      have HWL := Lib.hid hwl; clear hwl
      have HO := Lib.hid ho; clear ho
      have HB := Lib.hid hb; clear hb
      go_wp2_with fail
      have hx7 := Blk.new wr 26 #[.bool r.choice, .slice hA hl' hc, .bool r.sum, .int .i64 r.bound, .slice bA bl bc, .slice wA wl wc]
      have hbW := bel_alloc wr (.cells #[.bool r.choice, .slice hA hl' hc, .bool r.sum, .int .i64 r.bound, .slice bA bl bc, .slice wA wl wc] 26)
      generalize wr.alloc (.cells #[.bool r.choice, .slice hA hl' hc, .bool r.sum, .int .i64 r.bound, .slice bA bl bc, .slice wA wl wc] 26) = W1 at *
      obtain ⟨s0, s1, s2, s3, s4, s5, s6⟩ := rcells' hx7
      clear d0 d1 d2 d3 d4 d5
      have HX7 := Lib.hid hx7; clear hx7
      have HBW := Lib.hid hbW; clear hbW
      refine wp_cut { tmps := #[Value.int IntKind.i64 n, Value.slice (some { block := bb, off := off }) rl rc, undef, undef, Value.slice none 0 0, u5, undef, Value.pointer (some { block := wr.heap.size, off := 0 }), Value.pointer (some { block := W1.heap.size, off := 0 }), u9, u10, Value.slice (some { block := bb, off := off }) rl rc, Value.int IntKind.i64 ↑rl, Value.int IntKind.i64 ↑k, Value.bool true, Value.pointer (some { block := bb, off := off + k * 6 }), Value.agg #[Value.bool r.choice, Value.slice hA hl' hc, Value.bool r.sum, Value.int IntKind.i64 r.bound, Value.slice bA bl bc, Value.slice wA wl wc], Value.pointer (some { block := wr.heap.size, off := 2 }), Value.bool r.sum, Value.pointer (some { block := wr.heap.size, off := 3 }), Value.int IntKind.i64 r.bound, Value.pointer (some { block := wr.heap.size, off := 1 }), Value.slice hA hl' hc, Value.pointer (some { block := wr.heap.size, off := 1 }), Value.slice hA hl' hc, Value.int IntKind.i64 ↑hl', Value.int IntKind.i64 ↑q, Value.slice hA q hc, Value.agg #[Value.bool false, Value.slice hA q hc, Value.bool r.sum, Value.int IntKind.i64 r.bound, Value.slice none 0 0, Value.slice none 0 0], u29, u30, u31, u32, u33, u34, u35, u36, u37, u38, u39, u40, u41, u42, u43, u44, u45, u46, u47, u48, u49, u50, u51, u52, u53, u54, u55, u56, u57, u58, u59, u60, u61, u62, undef], defers := [] } ((W1.alloc (.cells #[.bool false, .slice hA q hc, .bool r.sum, .int .i64 r.bound, .slice none 0 0, .slice none 0 0] 26)).drew) ?main ?imp
      case main =>
        go_region_held3 (fun w' => w'.cell? ⟨wr.heap.size, 1, none⟩ = some (.slice hA hl' hc) ∧ w'.cell? ⟨wr.heap.size, 2, none⟩ = some (.bool r.sum) ∧ w'.cell? ⟨wr.heap.size, 3, none⟩ = some (.int .i64 r.bound)) (go_keep) (fail)
        all_goals exact ⟨rfl, rfl, rfl⟩
      case imp =>
        clear s0 s1 s2 s3 s4 s5 s6
        have bo0 : Blk ((W1.alloc (.cells #[.bool false, .slice hA q hc, .bool r.sum, .int .i64 r.bound, .slice none 0 0, .slice none 0 0] 26)).drew) W1.heap.size 26 #[.bool false, .slice hA q hc, .bool r.sum, .int .i64 r.bound, .slice none 0 0, .slice none 0 0] := (Blk.new W1 _ _).drew
        have bx0 := (HX7.out.alloc (.cells #[.bool false, .slice hA q hc, .bool r.sum, .int .i64 r.bound, .slice none 0 0, .slice none 0 0] 26)).drew
        have hbw2 : Below W1.heap.size W1 (W1.alloc (.cells #[.bool false, .slice hA q hc, .bool r.sum, .int .i64 r.bound, .slice none 0 0, .slice none 0 0] 26)).drew := (bel_alloc _ _).drew
        have hsz : W1.heap.size < (W1.alloc (.cells #[.bool false, .slice hA q hc, .bool r.sum, .int .i64 r.bound, .slice none 0 0, .slice none 0 0] 26)).drew.heap.size := by simp
        generalize (W1.alloc (.cells #[.bool false, .slice hA q hc, .bool r.sum, .int .i64 r.bound, .slice none 0 0, .slice none 0 0] 26)).drew = W2 at *
        have hsz1 : wr.heap.size < W1.heap.size := HX7.out.lt
        have hb2 := bel_trans HB.out (bel_trans HBW.out hbw2)
        have hbo := bel_trans HBW.out hbw2
        have hob2 := HO.out.bel (bel_trans HBW.out hbw2)
        have hsz0 := HB.out.size
        have hvlt := HO.out.1.lt
        generalize W1.heap.size = g8 at *
        obtain ⟨wo, rfl⟩ : ∃ wo : World, wo = wr := ⟨_, rfl⟩
        obtain ⟨s0, s1, s2, s3, s4, s5, s6⟩ := rcells' bx0
        have BO0 := Lib.hid bo0; clear bo0
        have BX0 := Lib.hid bx0; clear bx0
        have HBW2 := Lib.hid hbw2; clear hbw2
        have HB2 := Lib.hid hb2; clear hb2
        have HOB2 := Lib.hid hob2; clear hob2
        have HVLT := Lib.hid hvlt; clear hvlt
        have HBO := Lib.hid hbo; clear hbo
        go_wp2_with fail
        clear s0 s1 s2 s3 s4 s5
        go_loopw [32] (fun t wr => ∃ (i : Nat) (bv wv : Value) (lb lw : Nat), i ≤ bl ∧ t = .int .i64 (i : Int) ∧ Blk wr g8 26 #[.bool false, .slice hA q hc, .bool r.sum, .int .i64 r.bound, bv, wv] ∧ OwnI wr W2.heap.size bv lb ((r.body.take i).filter isPos) ∧
            OwnI wr W2.heap.size wv lw (if r.sum then posW ((zp r).take i) else []) ∧ (∀ q, bv.ownBlock = some q → wv.ownBlock ≠ some q) ∧ Kept [g8] W2 wr) (fun t _ => bl - (intOf t).toNat)
        case atStart => exact ⟨0, _, _, 0, 0, Nat.zero_le _, rfl, BO0.out, OwnI.nil _ _, by simp [posW]; exact OwnI.nil _ _, by simp [Value.ownBlock], Kept.refl _ _⟩
        case round =>
          obtain ⟨i, bv, wv, lb, lw, hi, rfl, bo, ob, ow, hne, hkp⟩ := hrel
          have hB := Kept.below HB2.out hkp (by omega) (fun q hq => by simp at hq; omega)
          have bX := hkp.blk BX0.out (by simp; omega)
          obtain ⟨s0, s1, s2, s3, s4, s5, s6⟩ := rcells' bX
          obtain ⟨o0, o1, o2, o3, o4, o5, o6⟩ := rcells' bo
          have hsB : W2.heap.size ≤ wr.heap.size := hkp.size
          have hlb : lb ≤ i := by
            rw [ob.len]
            have h1 := List.length_filter_le isPos (r.body.take i)
            have h2 := List.length_take_le i r.body
            omega
          have hlw : lw ≤ i := by
            rw [ow.len]
            have h1 := posW_len ((zp r).take i)
            have h2 := List.length_take_le i (zp r)
            split <;> simp <;> omega
          have hbs := G3.out.small
          by_cases hlt2 : i < bl
          · obtain ⟨x, hx, -⟩ := G3.out.drop hlt2
            obtain ⟨xb, xo, rfl, lx, cx, _⟩ := G3.out.int hx
            replace cx := (hB.cell (World.block_lt_of_cell? _ _ cx)).trans cx
            have e1 := filt_take hx
            have i0 : (0 : Int) ≤ (i : Int) := by omega
            have i1 : (i : Int) < (bl : Int) := by omega
            by_cases hp : 0 < x
            · have hip : isPos x = true := decide_eq_true hp
              rw [hip, if_pos rfl] at e1
              obtain ⟨v1, w3, hrun, own1, hg1, hat1⟩ := app1 ob x (by omega) hsB 24
              obtain ⟨g1, cap1, rfl, hgb1, hgl1⟩ := World.ownsRow.form own1.2 (by omega)
              have hro : some g8 ≠ bv.ownBlock := fun e => by have := (ob.2.lt _ e.symm).1; omega
              have hrx : some wo.heap.size ≠ bv.ownBlock := fun e => by have := (ob.2.lt _ e.symm).1; omega
              have c4 := (hg1.cell_far ⟨g8, 4, none⟩ o6 hro).trans o4
              have f4 := (hg1.frozen_far ⟨g8, 4, none⟩ o6 hro).trans (bo.frozen 4)
              have c2 := (hg1.cell_far ⟨wo.heap.size, 2, none⟩ s6 hrx).trans s2
              have k1' : Kept [g8] w3 (w3.setCell ⟨g8, 4, none⟩ (.slice (some ⟨g1, 0, none⟩) (lb + 1) cap1)) := (Kept.refl _ _).set (.inl (by simp)) _
              have bo' : Blk (w3.setCell ⟨g8, 4, none⟩ (.slice (some ⟨g1, 0, none⟩) (lb + 1) cap1)) g8 26 #[.bool false, .slice hA q hc, .bool r.sum, .int .i64 r.bound, .slice (some ⟨g1, 0, none⟩) (lb + 1) cap1, wv] := (bo.grown hg1 hro).set_ 4 _
              have ow' := (ow.kept hg1 (by
                cases hq : wv.ownBlock with
                | none => exact .inl rfl
                | some z => exact .inr fun e => hne z e.symm hq)).keptS k1' (fun z hz hm => by have := (ow.2.lt z hz).1; simp at hm; omega)
              have ob' := own1.keptS k1' (fun z hz hm => by have := (own1.2.lt z hz).1; simp at hm; omega)
              have kp' := (hkp.grown hg1 (fun z hz => .inr (ob.2.lt z hz).1)).set (p := ⟨g8, 4, none⟩) (.inl (by simp)) (.slice (some ⟨g1, 0, none⟩) (lb + 1) cap1)
              have hne' : wv.ownBlock ≠ some g1 := fun e => by
                rcases hat1 g1 rfl with h1 | h1
                · exact hne g1 h1 e
                · have := (ow.2.lt g1 e).2; omega
              have hsz3 : wr.heap.size ≤ (w3.setCell ⟨g8, 4, none⟩ (.slice (some ⟨g1, 0, none⟩) (lb + 1) cap1)).heap.size := by have := hg1.size; simpa [World.setCell] using this
              cases hsum : r.sum with
              | false =>
                rw [hsum] at c2 s2 ow' bo'
                have E1 := Lib.hid e1; clear e1
                have BO := Lib.hid bo; clear bo
                have OB := Lib.hid ob; clear ob
                have OW := Lib.hid ow; clear ow
                have HNE := Lib.hid hne; clear hne
                have HKP := Lib.hid hkp; clear hkp
                have BX := Lib.hid bX; clear bX
                have HX := Lib.hid hx; clear hx
                have HRUN := Lib.hid hrun; clear hrun
                have OWN1 := Lib.hid own1; clear own1
                have HG1 := Lib.hid hg1; clear hg1
                have HAT1 := Lib.hid hat1; clear hat1
                have BO' := Lib.hid bo'; clear bo'
                have OW' := Lib.hid ow'; clear ow'
                have OB' := Lib.hid ob'; clear ob'
                have KP' := Lib.hid kp'; clear kp'
                have HNE' := Lib.hid hne'; clear hne'
                have HRO := Lib.hid hro; clear hro
                have HRX := Lib.hid hrx; clear hrx
                have HB := Lib.hid hB; clear hB
                have K1' := Lib.hid k1'; clear k1'
                clear s0 s1 s3 s4 s5 o0 o1 o2 o3 o5
                go_wp2_with (at_builtin; refine wpList_append_run rfl _ _ _ rfl _ _ rfl rfl _ _ HRUN.out ?_)
                go_roundw
                case rel => exact ⟨i + 1, _, _, lb + 1, lw, by omega, by go_num, BO'.out, by rw [E1.out]; exact OB'.out, by simpa using OW'.out, fun z hz e => by
                  have h1 : z = g1 := by simpa [Value.ownBlock] using hz.symm
                  subst h1; exact HNE'.out e, KP'.out⟩
                case measure => simp [intOf]; omega
              | true =>
                have hwl := HWL.out hsum
                rw [← G3.out.len, ← G4.out.len] at hwl
                obtain rfl : bl = wl := hwl.symm
                clear hwl
                obtain ⟨y, hy, -⟩ := G4.out.drop (show i < bl by omega)
                obtain ⟨yb, yo, rfl, ly, cy0, _⟩ := G4.out.int hy
                have e2 := posW_take (zp_at hx hy)
                rw [hip, if_pos rfl] at e2
                have k1 : (i : Int) < (bl : Int) := by omega
                rw [hsum] at c2 s2 ow' bo'
                simp only [if_true] at ow'
                have E1 := Lib.hid e1; clear e1
                have E2 := Lib.hid e2; clear e2
                have BO := Lib.hid bo; clear bo
                have OB := Lib.hid ob; clear ob
                have OW := Lib.hid ow; clear ow
                have HNE := Lib.hid hne; clear hne
                have HKP := Lib.hid hkp; clear hkp
                have BX := Lib.hid bX; clear bX
                have HX := Lib.hid hx; clear hx
                have HY := Lib.hid hy; clear hy
                have HRUN := Lib.hid hrun; clear hrun
                have OWN1 := Lib.hid own1; clear own1
                have HG1 := Lib.hid hg1; clear hg1
                have HAT1 := Lib.hid hat1; clear hat1
                have BO' := Lib.hid bo'; clear bo'
                have OW' := Lib.hid ow'; clear ow'
                have OB' := Lib.hid ob'; clear ob'
                have KP' := Lib.hid kp'; clear kp'
                have HNE' := Lib.hid hne'; clear hne'
                have HRO := Lib.hid hro; clear hro
                have HRX := Lib.hid hrx; clear hrx
                have HB := Lib.hid hB; clear hB
                have K1' := Lib.hid k1'; clear k1'
                clear s0 s1 s3 s4 s5 o0 o1 o2 o3 o5
                go_wp2_with (at_builtin; refine wpList_append_run rfl _ _ _ rfl _ _ rfl rfl _ _ HRUN.out ?_)
                generalize w3.setCell ⟨g8, 4, none⟩ (.slice (some ⟨g1, 0, none⟩) (lb + 1) cap1) = W at *
                clear c4 f4 o4 c2 cx s2
                have hBW := Kept.below HB2.out KP'.out (by omega) (fun z hz => by simp at hz; omega)
                have r5 : W.cell? ⟨wo.heap.size, 5, none⟩ = some (.slice (some ⟨yb, yo, none⟩) bl wc) := (KP'.out.blk BX0.out (by simp; omega)).cell 5
                have cy := (hBW.cell (World.block_lt_of_cell? _ _ cy0)).trans cy0
                have k5 : W.cell? ⟨g8, 5, none⟩ = some wv := BO'.out.cell 5
                have kf5 : W.frozen? ⟨g8, 5, none⟩ = false := BO'.out.frozen 5
                have k5l := World.block_lt_of_cell? _ _ k5
                have hw5 : some g8 ≠ wv.ownBlock := fun e => by have := (OW'.out.2.lt _ e.symm).1; omega
                clear cy0
                obtain ⟨ii, hi0, hz0, hz1, hz2⟩ := info_parts info_int
                have hbase : W2.heap.size ≤ W.heap.size := by omega
                have HW5 := Lib.hid hw5; clear hw5
                have HBW := Lib.hid hBW; clear hBW
                go_wp2_with fail
                have n1 : g8 ≠ wo.heap.size := by omega
                have n2 : g8 ≠ yb := by omega
                have l1 := World.block_lt_of_cell? _ _ r5
                have l2 := World.block_lt_of_cell? _ _ cy
                have hwx : some wo.heap.size ≠ wv.ownBlock := fun e => by have := (OW'.out.2.lt _ e.symm).1; omega
                have hwy : some yb ≠ wv.ownBlock := fun e => by have := (OW'.out.2.lt _ e.symm).1; omega
                have HWX := Lib.hid hwx; clear hwx
                have HWY := Lib.hid hwy; clear hwy
                refine wp_cut3 (fun gg cap w4 => w4.ownsRow W2.heap.size 3 1 (.slice (some ⟨gg, 0, none⟩) (lw + 1) cap) (lw + 1) ((posW ((zp r).take i)).map (Value.int .i64) ++ [.int .i64 y]) ∧ (W.alloc (.cells #[.int .i64 y] 3)).drew.grownBy w4 wv.ownBlock ∧ (wv.ownBlock = some gg ∨ gg = W.heap.size + 1)) (fun gg cap _ => { tmps := #[Value.int IntKind.i64 n, Value.slice (some { block := bb, off := off }) rl rc, undef, undef, Value.slice none 0 0, u5, undef, Value.pointer (some { block := wo.heap.size, off := 0 }), Value.pointer (some { block := g8, off := 0 }), Value.int IntKind.i64 ↑i, Value.int IntKind.i64 x, Value.slice (some { block := bb, off := off }) rl rc, Value.int IntKind.i64 ↑rl, Value.int IntKind.i64 ↑k, Value.bool true, Value.pointer (some { block := bb, off := off + k * 6 }), Value.agg #[Value.bool r.choice, Value.slice hA hl' hc, Value.bool true, Value.int IntKind.i64 r.bound, Value.slice (some { block := xb, off := xo }) bl bc, Value.slice (some { block := yb, off := yo }) bl wc], Value.pointer (some { block := wo.heap.size, off := 2 }), Value.bool true, Value.pointer (some { block := wo.heap.size, off := 3 }), Value.int IntKind.i64 r.bound, Value.pointer (some { block := wo.heap.size, off := 1 }), Value.slice hA hl' hc, Value.pointer (some { block := wo.heap.size, off := 1 }), Value.slice hA hl' hc, Value.int IntKind.i64 ↑hl', Value.int IntKind.i64 ↑q, Value.slice hA q hc, Value.agg #[Value.bool false, Value.slice hA q hc, Value.bool true, Value.int IntKind.i64 r.bound, Value.slice none 0 0, Value.slice none 0 0], Value.pointer (some { block := wo.heap.size, off := 4 }), Value.slice (some { block := xb, off := xo }) bl bc, Value.int IntKind.i64 ↑bl, Value.int IntKind.i64 ↑i, Value.bool true, Value.int IntKind.i64 ↑i, Value.pointer (some { block := xb, off := xo + i }), Value.int IntKind.i64 x, Value.int IntKind.i64 x, Value.bool true, Value.pointer (some { block := g8, off := 4 }), bv, Value.int IntKind.i64 x, Value.slice (some { block := wr.heap.size, off := 0 }) 1 1, Value.slice (some { block := g1, off := 0 }) (lb + 1) cap1, Value.pointer (some { block := g8, off := 4 }), Value.pointer (some { block := wo.heap.size, off := 2 }), Value.bool true, Value.pointer (some { block := g8, off := 5 }), wv, Value.pointer (some { block := wo.heap.size, off := 5 }), Value.slice (some { block := yb, off := yo }) bl wc, Value.int IntKind.i64 ↑i, Value.pointer (some { block := yb, off := yo + i }), Value.int IntKind.i64 y, Value.slice (some { block := W.heap.size, off := 0 }) 1 1, Value.slice (some { block := gg, off := 0 }) (lw + 1) cap, Value.pointer (some { block := g8, off := 5 }), u57, u58, u59, u60, u61, u62, undef], defers := [] }) (fun gg cap w4 => w4.setCell ⟨g8, 5, none⟩ (.slice (some ⟨gg, 0, none⟩) (lw + 1) cap)) ?main ?imp
                case main =>
                  refine wp_region_noPanic ?_
                  go_region_law
                    ((refine step_append_lies _ (by rfl) _ _ _ (by rfl) W2.heap.size 3 ii _ 1 8 Try.underlying24 hi0 hz0 hz1 hz2 rfl (by omega) wv lw ((posW ((zp r).take i)).map (Value.int .i64)) (by rfl) ((OW'.out.2.alloc _).drew) ⟨W.heap.size, 0, none⟩ 1 1 [.int .i64 y] (by rfl) (by rfl) (World.news_of_block (cs := #[.int .i64 y]) (t := 3) (fr := (0, 0)) (heap_alloc_new W _)) (by simp [Value.oneCell']) (by omega) (by unfold maxLen; omega) (by omega) (by simp; omega) (W.heap.size + 1) (by simp) ?_; intro gg cap w4 hown4 hgrow4 hat4 hlt4;
                                            have hz9 : w4.cell? ⟨g8, 5, none⟩ = some wv := (hgrow4.cell_far ⟨g8, 5, none⟩ (by simp; omega) HW5.out).trans (((bel_alloc W _).drew.cell k5l).trans k5);
                                            have hy9 : w4.frozen? ⟨g8, 5, none⟩ = false := (hgrow4.frozen_far ⟨g8, 5, none⟩ (by simp; omega) HW5.out).trans (((bel_alloc W _).drew.frozen k5l).trans kf5)))
                  all_goals exact ⟨rfl, gg, cap, w4, ⟨hown4, hgrow4, hat4⟩, rfl, rfl⟩
                case imp =>
                  rintro gg cap w4 ⟨hown4, hgrow4, hat4⟩
                  have HG := Lib.hid (grown_grown (grown_drew (grown_alloc (grown_refl W wv.ownBlock) _)) hgrow4 (fun k hk => .inl hk))
                  have HT := Lib.hid hown4
                  have HA4 := Lib.hid hat4
                  clear hown4 hgrow4 hat4
                  have k2' : Kept [g8] w4 (w4.setCell ⟨g8, 5, none⟩ (.slice (some ⟨gg, 0, none⟩) (lw + 1) cap)) := (Kept.refl _ _).set (.inl (by simp)) _
                  have bo2 : Blk (w4.setCell ⟨g8, 5, none⟩ (.slice (some ⟨gg, 0, none⟩) (lw + 1) cap)) g8 26 #[.bool false, .slice hA q hc, .bool true, .int .i64 r.bound, .slice (some ⟨g1, 0, none⟩) (lb + 1) cap1, .slice (some ⟨gg, 0, none⟩) (lw + 1) cap] := (BO'.out.grown HG.out HW5.out).set_ 5 _
                  have ow2 : OwnI w4 W2.heap.size (.slice (some ⟨gg, 0, none⟩) (lw + 1) cap) (lw + 1) (posW ((zp r).take i) ++ [y]) := ⟨by rw [OW'.out.1]; simp, by rw [List.map_append]; exact HT.out⟩
                  have ow3 := ow2.keptS k2' (fun z hz hm => by have := (ow2.2.lt z hz).1; simp at hm; omega)
                  have ob2 := (OB'.out.kept HG.out (by
                    cases hq : wv.ownBlock with
                    | none => exact .inr (by simp [Value.ownBlock])
                    | some z => exact .inr fun e => HNE'.out (by rw [hq]; exact e.symm))).keptS k2' (fun z hz hm => by have := (OB'.out.2.lt z hz).1; simp at hm; omega)
                  have hn2 : ∀ z, (Value.slice (some ⟨g1, 0, none⟩) (lb + 1) cap1).ownBlock = some z → (Value.slice (some ⟨gg, 0, none⟩) (lw + 1) cap).ownBlock ≠ some z := fun z hz e => by
                    have h1 : z = g1 := by simpa [Value.ownBlock] using hz.symm
                    have h2 : z = gg := by simpa [Value.ownBlock] using e.symm
                    rcases HA4.out with h3 | h3
                    · exact HNE'.out (by rw [h3, ← h2, h1])
                    · have := (OB'.out.2.lt g1 rfl).2; omega
                  have kp2 := (KP'.out.grown HG.out (fun z hz => .inr (OW'.out.2.lt z hz).1)).set (p := ⟨g8, 5, none⟩) (.inl (by simp)) (.slice (some ⟨gg, 0, none⟩) (lw + 1) cap)
                  have K2' := Lib.hid k2'; clear k2'
                  have BO2 := Lib.hid bo2; clear bo2
                  have OW2 := Lib.hid ow2; clear ow2
                  have OW3 := Lib.hid ow3; clear ow3
                  have OB2 := Lib.hid ob2; clear ob2
                  have HN2 := Lib.hid hn2; clear hn2
                  have KP2 := Lib.hid kp2; clear kp2
                  go_wp2_with fail
                  go_roundw
                  case rel => exact ⟨i + 1, _, _, lb + 1, lw + 1, by omega, by go_num, BO2.out, by rw [E1.out]; exact OB2.out, by simpa [E2.out] using OW3.out, HN2.out, KP2.out⟩
                  case measure => simp [intOf]; omega
            · have hip : isPos x = false := decide_eq_false hp
              rw [hip] at e1
              simp only [Bool.false_eq_true, if_false] at e1
              have e2 : (if r.sum then posW ((zp r).take (i + 1)) else []) = (if r.sum then posW ((zp r).take i) else []) := by
                cases hsum : r.sum with
                | false => rfl
                | true =>
                  have hwl := HWL.out hsum
                  rw [← G3.out.len, ← G4.out.len] at hwl
                  obtain ⟨y, hy, -⟩ := G4.out.drop (show i < wl by omega)
                  have := posW_take (zp_at hx hy)
                  rw [hip] at this
                  simpa using this
              have E1 := Lib.hid e1; clear e1
              have E2 := Lib.hid e2; clear e2
              have BO := Lib.hid bo; clear bo
              have OB := Lib.hid ob; clear ob
              have OW := Lib.hid ow; clear ow
              have HNE := Lib.hid hne; clear hne
              have HKP := Lib.hid hkp; clear hkp
              have BX := Lib.hid bX; clear bX
              have HX := Lib.hid hx; clear hx
              have HB := Lib.hid hB; clear hB
              clear s0 s1 s2 s3 s4 s5 o0 o1 o2 o3 o4 o5
              go_wp2_with fail
              go_roundw
              case rel => exact ⟨i + 1, _, _, lb, lw, by omega, by go_num, BO.out, by rw [E1.out]; exact OB.out, by rw [E2.out]; exact OW.out, HNE.out, HKP.out⟩
              case measure => simp [intOf]; omega
          · have hib : i = bl := by omega
            subst hib
            rw [List.take_of_length_le (by rw [← G3.out.len]; omega)] at ob
            have hzl : (zp r).length ≤ i := by unfold zp; rw [List.length_zip, ← G3.out.len]; omega
            rw [List.take_of_length_le hzl] at ow
            have hx1 : ∀ x ∈ r.body.filter isPos, I64 x := fun x hx => G3.out.all64 x (List.mem_filter.1 hx).1
            have hx2 : ∀ y ∈ (if r.sum then posW (zp r) else []), I64 y := fun y hy => by
              split at hy
              · obtain ⟨x, hq⟩ := posW_mem hy
                exact G4.out.all64 y (List.of_mem_zip hq).2
              · cases hy
            obtain ⟨bA', bc', rfl, fB⟩ := ob.sl (by omega) hx1
            obtain ⟨wA', wc', rfl, fW⟩ := ow.sl (by omega) hx2
            have frB := ob.fresh
            have frW := ow.fresh
            have hbw := Kept.below HBO.out hkp (by omega) (fun z hz => by simp at hz; omega)
            have ho' := HO.out.bel hbw
            have hpl : (defL (rs.take k)).length = k := by unfold defL; rw [List.length_map, List.length_take, ← H.out.len]; omega
            obtain ⟨v', w5, hrun, hown5, hg5, hat5⟩ := appR ho'.1 (.bool false) (.slice hA q hc) (.bool r.sum) (.int .i64 r.bound) (.slice bA' lb bc') (.slice wA' lw wc') (by simp [Value.oneCell']) (by omega) hB.size 22
            have hM : ∀ z ∈ u5.ownBlock.toList, w.heap.size ≤ z ∧ z < wo.heap.size := fun z hz => HVLT.out z (by
              cases hv : u5.ownBlock with
              | none => rw [hv] at hz; simp at hz
              | some y => rw [hv] at hz; simp at hz; rw [hz])
            have hsn := OutRow.snoc (x := defOne r) (M' := v'.ownBlock.toList) ho' ⟨GQ.out.ext hB, G2.out, fB, fW⟩
              (fun h0 ad e hm => by have h1 := GQ.out.blk_lt h0 e; have h2 := (hM _ hm).1; omega)
              (frB.off fun z hz => by have := (hM z hz).2; omega) (frW.off fun z hz => by have := (hM z hz).2; omega) hown5
              ((Kept.refl _ wr).grown hg5 fun z hz => .inl (by rw [hz]; simp)) (fun z hz => by
                cases hv : v'.ownBlock with
                | none => rw [hv] at hz; simp at hz
                | some y =>
                  rw [hv] at hz; simp at hz; subst hz
                  rcases hat5 z hv with h1 | h1
                  · left; rw [h1]; simp
                  · exact .inr h1)
            have hb5 := bel_grown hB hg5 hB.size (fun z hz => (HVLT.out z hz).1)
            have he : defL (rs.take (k + 1)) = defL (rs.take k) ++ [defOne r] := by rw [take_snoc' HRI.out]; simp [defL]
            have OB := Lib.hid ob; clear ob
            have OW := Lib.hid ow; clear ow
            have FB := Lib.hid fB; clear fB
            have FW := Lib.hid fW; clear fW
            have FRB := Lib.hid frB; clear frB
            have FRW := Lib.hid frW; clear frW
            have HBW := Lib.hid hbw; clear hbw
            have HO' := Lib.hid ho'; clear ho'
            have HRUN := Lib.hid hrun; clear hrun
            have HOWN5 := Lib.hid hown5; clear hown5
            have HG5 := Lib.hid hg5; clear hg5
            have HAT5 := Lib.hid hat5; clear hat5
            have HSN := Lib.hid hsn; clear hsn
            have HB5 := Lib.hid hb5; clear hb5
            have HE := Lib.hid he; clear he
            have HM := Lib.hid hM; clear hM
            have BO := Lib.hid bo; clear bo
            have BX := Lib.hid bX; clear bX
            have HNE := Lib.hid hne; clear hne
            have HKP := Lib.hid hkp; clear hkp
            have HB := Lib.hid hB; clear hB
            have HX1 := Lib.hid hx1; clear hx1
            have HX2 := Lib.hid hx2; clear hx2
            clear s0 s1 s2 s3 s4 s5
            go_wp2_with (at_builtin; refine wpList_append_run rfl _ _ _ rfl _ _ rfl rfl _ _ HRUN.out ?_)
            go_roundw
            case rel => exact ⟨k + 1, _, by omega, by go_num, by rw [HE.out]; exact HSN.out, HB5.out⟩
            case measure => simp [intOf]; omega
    · have hkl : k = rl := by omega
      subst hkl
      obtain ⟨A, c, hv, hsl⟩ := ho.sl (by simp [defL]; have := H.out.len; omega)
      rw [List.take_of_length_le (by have := H.out.len; omega)] at hv hsl
      have hlen : (defL rs).length = k := by unfold defL; rw [List.length_map]; exact H.out.len.symm
      rw [hlen] at hv hsl
      have HV := Lib.hid hv; clear hv
      have HSL := Lib.hid hsl; clear hsl
      have HB := Lib.hid hb; clear hb
      have HO := Lib.hid ho; clear ho
      have HLEN := Lib.hid hlen; clear hlen
      go_wp2_with fail
      refine bodyPost_ret (results_tmp rfl _ _ _) rfl ?_
      exact ⟨A, c, by rw [← HV.out]; rfl, HSL.out, HB.out⟩
end Go.Proofs.Ytcbkkjcleiibfaa

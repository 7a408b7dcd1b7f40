/- Contracts of the reference: reduced and Reduct, Is. -/
import Derived.Test.YtamdammaeaeilaaGreatRwo
import Derived.Test.YtamdammaeaeilaaGreatRd8
import Derived.Test.YtamdammaeaeilaaGreatRd9
import Derived.Test.YtamdammaeaeilaaGreatG2
import Derived.Test.YtamdammaeaeilaaGreatG5
namespace Go.Proofs.YtamdammaeaeilaaGreat
open Go.RowKit

theorem inc_len' {n : Int} {xs : List Int} (h : incB n xs = true) (h0 : 0 ≤ n) : xs.length ≤ n.toNat := by
  have h1 := ((atoms_sub n.toNat xs).2 (by rw [show ((n.toNat : Nat) : Int) = n by omega]; exact h)).length_le
  simpa [atomsL] using h1
theorem stab_one {α : Type} {R : Rep α} {e : TypeId} {T : List Nat} {W : World} {c : List Value} {x : α} (h : Stab R T (W.alloc (.cells c.toArray e)) c x) (hT : W.heap.size ∉ T) : StabS R T (W.alloc (.cells c.toArray e)) (some ⟨W.heap.size, 0, none⟩) 1 1 [x] := fun V hV => by
  have hb := hV.blk (Blk.new W e c.toArray) hT
  refine ⟨rfl, Nat.le_refl _, ⟨by unfold maxLen; omega, by omega⟩, fun _ => ⟨_, rfl, hb.lt, fun i y hy => ?_⟩⟩
  match i, hy with
  | 0, hy =>
    simp at hy; subst hy
    exact ⟨c, h V hV, fun j u hu => by rw [add_none, Nat.zero_add, hb.cell]; simpa using hu⟩
  | i + 1, hy => simp at hy
theorem sl_one' {W : World} {H : Nat} {y : Int} (h : Blk W H 3 #[.int .i64 y]) (hy : I64 y) : SlIs intR W (some ⟨H, 0, none⟩) 1 1 [y] := by
  refine ⟨rfl, Nat.le_refl _, ⟨by unfold maxLen; omega, by omega⟩, fun _ => ⟨_, rfl, h.lt, fun i x hx => ?_⟩⟩
  match i, hx with
  | 0, hx =>
    simp at hx; subst hx
    refine ⟨[.int .i64 y], ⟨rfl, hy⟩, fun j u hu => ?_⟩
    match j, hu with
    | 0, hu => simp at hu; subst hu; rw [add_none]; exact h.cell 0
    | j + 1, hu => simp at hu
  | i + 1, hx => simp at hx
theorem trueB_neg {x : Int} (h : ¬ 0 < x) (m : List Int) : trueB x m = !decide (-x ∈ m) := by unfold trueB; rw [if_neg h]
/-- A slice that lies between the box and the present. -/
theorem off_between {W : World} {X n k0 : Nat} {A : Option Addr} {l c : Nat} {xs : List Int} (h : SlIs intR W A l c xs) (hf : Frs n A l) {T : List Nat} (hT : ∀ k ∈ T, k = X ∨ k < k0 ∨ W.heap.size ≤ k) (hX : X < n) (hk : k0 ≤ n) : Off T A l := fun h0 ad e hm => by
  have h1 := hf h0 ad e
  have h2 := h.blk_lt h0 e
  rcases hT _ hm with h3 | h3 | h3 <;> omega
/-- A slice that was there before. -/
theorem off_before {w0 : World} {A : Option Addr} {l c : Nat} {xs : List Int} (h : SlIs intR w0 A l c xs) {T : List Nat} (hT : ∀ k ∈ T, w0.heap.size ≤ k) : Off T A l := fun h0 ad e hm => by
  have h2 := h.blk_lt h0 e
  have := hT _ hm; omega
theorem RowO.fresh {α : Type} {R : Rep α} {e : TypeId} {S : List Nat} {B : Nat} {W : World} {A : Option Addr} {l c : Nat} {xs : List α} (h : RowO R e S B W (.slice A l c) xs) : Frs B A xs.length := fun h0 ad ea => by
  obtain ⟨_, cs, h2, _⟩ := h
  obtain ⟨g, cap, e2, hb, _⟩ := World.ownsRow.form h2 h0
  cases e2; cases ea; exact hb
set_option maxRecDepth 100000 in
set_option maxHeartbeats 4000000 in
theorem refReducedS_any (r : GRule) (hA : Option Addr) (hl hc : Nat) (bA : Option Addr) (bl bc : Nat) (wA : Option Addr) (wl wc : Nat) (xA : Option Addr) (xl xc : Nat) (m : List Int) (n : Int) (w0 w : World) (hb0 : Below w0.heap.size w0 w) (hr : RuleIn w0 r hA hl hc bA bl bc wA wl wc) (hm : SlIs intR w0 xA xl xc m) (hi : RuleIs r n) (T : List Nat) (hT : ∀ k ∈ T, w0.heap.size ≤ k ∧ k < w.heap.size) (hs : r.sum = true) :
    Calls Tryz.prog 114 #[.agg #[.bool r.choice, .slice hA hl hc, .bool r.sum, .int .i64 r.bound, .slice bA bl bc, .slice wA wl wc], .slice xA xl xc] w fun e w' => ∃ A l c, e = .returned (.slice A l c) ∧ StabS ruleR T w' A l c (redOne m r) ∧ Frs w.heap.size A l ∧ Below w.heap.size w w' := by
  have hbc := hr.body.cap
  have hbm := hr.body.max
  have hwc := hr.wt.cap
  have hwm := hr.wt.max
  have hhc := hr.head.cap
  have hhm := hr.head.max
  have hh4 : hl ≤ 4000 := by have h1 := inc_len' hi.head hi.n0; have h2 := hi.n1; have h3 := hr.head.len; omega
  have hbs := hr.body.small
  have hwl := hi.wlen hs
  rw [← hr.body.len, ← hr.wt.len] at hwl
  have hw0 := wtGo_spec r.w 0 (by omega) (by omega) (hi.wt hs)
  have hbd0 := hi.b0 hs
  have hbd1 := hi.b1 hs
  have hnb := fun k => negS_bd m r.body r.w k fun y hy => by have := hw0.1 y hy; omega
  rw [show r.body.zip r.w = zp r from rfl] at hnb
  subst hwl
  have hfin : posRule r m = if r.bound - negS m (zp r) ≤ 0 then zeroRule else ⟨false, [], true, r.bound - negS m (zp r), r.body.filter isPos, posW (zp r)⟩ := by unfold posRule; rw [if_pos hs]
  have hdd : dropB r m = false := dropB_sum hs
  have HR := Lib.hid hr; clear hr
  have HM := Lib.hid hm; clear hm
  have HI := Lib.hid hi; clear hi
  have HW0 := Lib.hid hw0; clear hw0
  have HNB := Lib.hid hnb; clear hnb
  have HFIN := Lib.hid hfin; clear hfin
  have HB0 := Lib.hid hb0; clear hb0
  have HDD := Lib.hid hdd; clear hdd
  have HT := Lib.hid hT; clear hT
  rw [hs]
  have HS := Lib.hid hs; clear hs
  go_enter Tryz.func114, Tryz.ntmps114
  go_wp2_with fail
  have hW : Blk ((w.alloc (.cells #[.bool r.choice, .slice hA hl hc, .bool true, .int .i64 r.bound, .slice bA wl bc, .slice wA wl wc] 55)).alloc (.cells #[.bool false, .slice none 0 0, .bool true, .int .i64 r.bound, .slice none 0 0, .slice none 0 0] 55)) w.heap.size 55 #[.bool r.choice, .slice hA hl hc, .bool true, .int .i64 r.bound, .slice bA wl bc, .slice wA wl wc] ∧ Blk ((w.alloc (.cells #[.bool r.choice, .slice hA hl hc, .bool true, .int .i64 r.bound, .slice bA wl bc, .slice wA wl wc] 55)).alloc (.cells #[.bool false, .slice none 0 0, .bool true, .int .i64 r.bound, .slice none 0 0, .slice none 0 0] 55)) (w.heap.size + 1) 55 #[.bool false, .slice none 0 0, .bool true, .int .i64 r.bound, .slice none 0 0, .slice none 0 0] ∧ Below w.heap.size w ((w.alloc (.cells #[.bool r.choice, .slice hA hl hc, .bool true, .int .i64 r.bound, .slice bA wl bc, .slice wA wl wc] 55)).alloc (.cells #[.bool false, .slice none 0 0, .bool true, .int .i64 r.bound, .slice none 0 0, .slice none 0 0] 55)) ∧ (((w.alloc (.cells #[.bool r.choice, .slice hA hl hc, .bool true, .int .i64 r.bound, .slice bA wl bc, .slice wA wl wc] 55)).alloc (.cells #[.bool false, .slice none 0 0, .bool true, .int .i64 r.bound, .slice none 0 0, .slice none 0 0] 55))).heap.size = w.heap.size + 1 + 1 :=
    ⟨(blk_new rfl _ _).alloc _, blk_new (by simp) _ _, bel_trans (bel_alloc _ _) (bel_alloc _ _), by simp⟩
  generalize ((w.alloc (.cells #[.bool r.choice, .slice hA hl hc, .bool true, .int .i64 r.bound, .slice bA wl bc, .slice wA wl wc] 55)).alloc (.cells #[.bool false, .slice none 0 0, .bool true, .int .i64 r.bound, .slice none 0 0, .slice none 0 0] 55)) = W0 at *
  obtain ⟨bR, bO, bW, hsz⟩ := hW
  have BR := Lib.hid bR; clear bR
  have BO := Lib.hid bO; clear bO
  have BW := Lib.hid bW; clear bW
  have HSZ := Lib.hid hsz; clear hsz
  go_loopw [6] (fun t wr => ∃ (k : Nat) (bv wv : Value) (lb lw : Nat), k ≤ wl ∧ t = .int .i64 (k : Int) ∧ Blk wr (w.heap.size + 1) 55 #[.bool false, .slice none 0 0, .bool true, .int .i64 (r.bound - negS m ((zp r).take k)), bv, wv] ∧ OwnI wr W0.heap.size bv lb ((r.body.take k).filter isPos) ∧
      OwnI wr W0.heap.size wv lw (posW ((zp r).take k)) ∧ (∀ q, bv.ownBlock = some q → wv.ownBlock ≠ some q) ∧ Kept [(w.heap.size + 1)] W0 wr) (fun t _ => wl - (intOf t).toNat)
  case atStart => exact ⟨0, _, _, 0, 0, Nat.zero_le _, rfl, by simpa [negS] using BO.out, OwnI.nil _ _, by simpa [posW] using OwnI.nil _ _, by simp [Value.ownBlock], Kept.refl _ _⟩
  case round =>
    obtain ⟨k, bv, wv, lb, lw, hk, rfl, bo, ob, ow, hne, hkp⟩ := hrel
    have hB := Lib.hid (Kept.below BW.out hkp (by rw [HSZ.out]; omega) (fun q hq => by simp at hq; omega))
    have rR := hkp.blk BR.out (by simp)
    have hz0 := HSZ.out
    have hz1 := hkp.size
    have hlb : lb ≤ k := by
      rw [ob.len]
      have h1 := List.length_filter_le isPos (r.body.take k)
      have h2 := List.length_take_le k r.body
      omega
    have hlw : lw ≤ k := by
      rw [ow.len]
      have h1 := posW_len ((zp r).take k)
      have h2 := List.length_take_le k (zp r)
      omega
    have hnk := HNB.out k
    generalize hz : r.bound - negS m ((zp r).take k) = z at *
    have z0 : -1048576 ≤ z := by have := HW0.out.2; omega
    have z1 : z ≤ 1048576 := by omega
    clear hnk
    have hbl : w.heap.size + 1 < wr.heap.size := by omega
    clear hz0
    have r4 : wr.cell? ⟨w.heap.size, 4, none⟩ = some (.slice bA wl bc) := rR.cell 4
    by_cases hlt : k < wl
    · obtain ⟨x, hx, -⟩ := HR.out.body.drop hlt
      obtain ⟨y, hy, -⟩ := HR.out.wt.drop hlt
      have hb0r := Lib.hid (bel_trans HB0.out hB.out)
      obtain ⟨xb, xo, rfl, lx, cx, _⟩ := HR.out.body.int hx
      obtain ⟨yb, yo, rfl, ly, cy, _⟩ := HR.out.wt.int hy
      replace cx := (hb0r.out.cell (World.block_lt_of_cell? _ _ cx)).trans cx
      replace cy := (hb0r.out.cell (World.block_lt_of_cell? _ _ cy)).trans cy
      have hxl := HI.out.ok.lit x (List.mem_of_getElem? hx)
      have hxu := (HR.out.body.all64 x (List.mem_of_getElem? hx)).2
      have hy1 := HW0.out.1 y (List.mem_of_getElem? hy)
      have hzp := zp_at hx hy
      have e1 := filt_take hx
      have e2 := posW_take hzp
      have e3 : r.bound - negS m ((zp r).take (k + 1)) = z - (if x ≤ 0 ∧ -x ∉ m then y else 0) := by rw [take_snoc' hzp, negS_app, ← hz]; simp only; omega
      have r2 : wr.cell? ⟨w.heap.size, 2, none⟩ = some (.bool true) := rR.cell 2
      have r5 : wr.cell? ⟨w.heap.size, 5, none⟩ = some (.slice (some ⟨yb, yo, none⟩) wl wc) := rR.cell 5
      have o3 : wr.cell? ⟨w.heap.size + 1, 3, none⟩ = some (.int .i64 z) := bo.cell 3
      have o4 : wr.cell? ⟨w.heap.size + 1, 4, none⟩ = some bv := bo.cell 4
      have o5 : wr.cell? ⟨w.heap.size + 1, 5, none⟩ = some wv := bo.cell 5
      have k0 : (0 : Int) ≤ (k : Int) := by omega
      have k1 : (k : Int) < (wl : Int) := by omega
      by_cases hp : 0 < x
      · have hip : isPos x = true := decide_eq_true hp
        rw [hip, if_pos rfl] at e1 e2
        rw [if_neg (fun h => by omega), Int.sub_zero] at e3
        obtain ⟨v1, w3, hrun, own1, hg1, hat1⟩ := app1 ob x (by omega) (by omega) 23
        obtain ⟨g1, cap1, rfl, hgb1, hgl1⟩ := World.ownsRow.form own1.2 (by omega)
        have hro : some (w.heap.size + 1) ≠ bv.ownBlock := fun e => by have := (ob.2.lt _ e.symm).1; have := HSZ.out; omega
        have c4 := (hg1.cell_far ⟨w.heap.size + 1, 4, none⟩ hbl hro).trans o4
        have f4 := (hg1.frozen_far ⟨w.heap.size + 1, 4, none⟩ hbl hro).trans (bo.frozen 4)
        have k1' : Kept [w.heap.size + 1] w3 (w3.setCell ⟨w.heap.size + 1, 4, none⟩ (.slice (some ⟨g1, 0, none⟩) (lb + 1) cap1)) := (Kept.refl _ _).set (.inl (by simp)) _
        have bo' : Blk (w3.setCell ⟨w.heap.size + 1, 4, none⟩ (.slice (some ⟨g1, 0, none⟩) (lb + 1) cap1)) (w.heap.size + 1) 55 #[.bool false, .slice none 0 0, .bool true, .int .i64 z, .slice (some ⟨g1, 0, none⟩) (lb + 1) cap1, wv] := (bo.grown hg1 hro).set_ 4 _
        have ow' := (ow.kept hg1 (by
          cases hq : wv.ownBlock with
          | none => exact .inl rfl
          | some q => exact .inr fun e => hne q e.symm hq)).keptS k1' (fun q hq hm => by have := (ow.2.lt q hq).1; have := HSZ.out; simp at hm; omega)
        have ob' := own1.keptS k1' (fun q hq hm => by have := (own1.2.lt q hq).1; have := HSZ.out; simp at hm; omega)
        have kp' := (hkp.grown hg1 (fun q hq => .inr (ob.2.lt q hq).1)).set (p := ⟨w.heap.size + 1, 4, none⟩) (.inl (by simp)) (.slice (some ⟨g1, 0, none⟩) (lb + 1) cap1)
        have hne' : wv.ownBlock ≠ some g1 := fun e => by
          rcases hat1 g1 rfl with h1 | h1
          · exact hne g1 h1 e
          · have := (ow.2.lt g1 e).2; omega
        have hsz3 : wr.heap.size ≤ (w3.setCell ⟨w.heap.size + 1, 4, none⟩ (.slice (some ⟨g1, 0, none⟩) (lb + 1) cap1)).heap.size := by have := hg1.size; simpa [World.setCell] using this
        have E1 := Lib.hid e1; clear e1
        have E2 := Lib.hid e2; clear e2
        have E3 := Lib.hid e3; clear e3
        have BO := Lib.hid bo; clear bo
        have OB := Lib.hid ob; clear ob
        have OW := Lib.hid ow; clear ow
        have HNE := Lib.hid hne; clear hne
        have HKP := Lib.hid hkp; clear hkp
        have RR := Lib.hid rR; clear rR
        have HX := Lib.hid hx; clear hx
        have HY := Lib.hid hy; clear hy
        have HZP := Lib.hid hzp; clear hzp
        have HZ := Lib.hid hz; clear hz
        have HRUN := Lib.hid hrun; clear hrun
        have OWN1 := Lib.hid own1; clear own1
        have HG1 := Lib.hid hg1; clear hg1
        have HAT1 := Lib.hid hat1; clear hat1
        have BO' := Lib.hid bo'; clear bo'
        have OW' := Lib.hid ow'; clear ow'
        have OB' := Lib.hid ob'; clear ob'
        have KP' := Lib.hid kp'; clear kp'
        have HNE' := Lib.hid hne'; clear hne'
        have HRO := Lib.hid hro; clear hro
        have c2 := (HG1.out.cell_far ⟨w.heap.size, 2, none⟩ (show w.heap.size < wr.heap.size by omega) (fun e => by have h5 : W0.heap.size ≤ w.heap.size := (OB.out.2.lt _ e.symm).1; have := HSZ.out; omega)).trans r2
        clear r2 r5 o3 o5 cy
        go_wp2_with (at_builtin; refine wpList_append_run rfl _ _ _ rfl _ _ rfl rfl _ _ HRUN.out ?_)
        generalize w3.setCell ⟨w.heap.size + 1, 4, none⟩ (.slice (some ⟨g1, 0, none⟩) (lb + 1) cap1) = W at *
        clear c4 f4 o4 k1' c2
        have hBW := Lib.hid (Kept.below BW.out KP'.out (by rw [HSZ.out]; omega) (fun q hq => by simp at hq; omega))
        have r2 : W.cell? ⟨w.heap.size, 2, none⟩ = some (.bool true) := (KP'.out.blk BR.out (by simp)).cell 2
        have r5 : W.cell? ⟨w.heap.size, 5, none⟩ = some (.slice (some ⟨yb, yo, none⟩) wl wc) := (KP'.out.blk BR.out (by simp)).cell 5
        obtain ⟨_, _, he, _, cy0, _⟩ := HR.out.wt.int HY.out
        cases he
        have cy := ((bel_trans HB0.out hBW.out).cell (World.block_lt_of_cell? _ _ cy0)).trans cy0
        have k5 : W.cell? ⟨w.heap.size + 1, 5, none⟩ = some wv := BO'.out.cell 5
        have kf5 : W.frozen? ⟨w.heap.size + 1, 5, none⟩ = false := BO'.out.frozen 5
        have k5l := World.block_lt_of_cell? _ _ k5
        have hw5 : some (w.heap.size + 1) ≠ wv.ownBlock := fun e => by have := (OW'.out.2.lt _ e.symm).1; have := HSZ.out; omega
        clear cy0
        obtain ⟨ii, hi0, hz0, hz1, hz2⟩ := info_parts info_int
        have hbase : W0.heap.size ≤ W.heap.size := by omega
        have HW5 := Lib.hid hw5; clear hw5
        go_wp2_with fail
        go_region_law
          ((refine step_append_lies _ (by rfl) _ _ _ (by rfl) W0.heap.size 3 ii _ 1 8 Tryz.underlying23 hi0 hz0 hz1 hz2 rfl (by omega) wv lw ((posW ((zp r).take k)).map (Value.int .i64)) (by rfl) ((OW'.out.2.alloc _).drew)
              ⟨W.heap.size, 0, none⟩ 1 1 [.int .i64 y] (by rfl) (by rfl) (World.news_of_block (cs := #[.int .i64 y]) (t := 3) (fr := (0, 0)) (heap_alloc_new W _)) (by simp [Value.oneCell'])
              (by omega) (by unfold maxLen; omega) (by omega) (by simp; omega) (W.heap.size + 1) (by simp) ?_; intro gg cap w4 hown4 hgrow4 hat4 hlt4
            have hz9 : w4.cell? ⟨w.heap.size + 1, 5, none⟩ = some wv := (hgrow4.cell_far ⟨w.heap.size + 1, 5, none⟩ (by simp; omega) HW5.out).trans (((bel_alloc W _).drew.cell k5l).trans k5)
            have hy9 : w4.frozen? ⟨w.heap.size + 1, 5, none⟩ = false := (hgrow4.frozen_far ⟨w.heap.size + 1, 5, none⟩ (by simp; omega) HW5.out).trans (((bel_alloc W _).drew.frozen k5l).trans kf5)))
        all_goals
          have HG := Lib.hid (grown_grown (grown_drew (grown_alloc (grown_refl W wv.ownBlock) _)) hgrow4 (fun k hk => .inl hk))
          have HT := Lib.hid hown4
          have HA4 := Lib.hid hat4
          clear hown4 hgrow4 hat4
          have k2' : Kept [w.heap.size + 1] w4 (w4.setCell ⟨w.heap.size + 1, 5, none⟩ (.slice (some ⟨gg, 0, none⟩) (lw + 1) cap)) := (Kept.refl _ _).set (.inl (by simp)) _
          have bo2 : Blk (w4.setCell ⟨w.heap.size + 1, 5, none⟩ (.slice (some ⟨gg, 0, none⟩) (lw + 1) cap)) (w.heap.size + 1) 55 #[.bool false, .slice none 0 0, .bool true, .int .i64 z, .slice (some ⟨g1, 0, none⟩) (lb + 1) cap1, .slice (some ⟨gg, 0, none⟩) (lw + 1) cap] := (BO'.out.grown HG.out HW5.out).set_ 5 _
          have ow2 : OwnI w4 W0.heap.size (.slice (some ⟨gg, 0, none⟩) (lw + 1) cap) (lw + 1) (posW ((zp r).take k) ++ [y]) := ⟨by rw [OW'.out.1]; simp, by rw [List.map_append]; exact HT.out⟩
          have ow3 := ow2.keptS k2' (fun q hq hm => by have := (ow2.2.lt q hq).1; have := HSZ.out; simp at hm; omega)
          have ob2 := (OB'.out.kept HG.out (by
            cases hq : wv.ownBlock with
            | none => exact .inr (by simp [Value.ownBlock])
            | some q => exact .inr fun e => HNE'.out (by rw [hq]; exact e.symm))).keptS k2' (fun q hq hm => by have := (OB'.out.2.lt q hq).1; have := HSZ.out; simp at hm; omega)
          have hn2 : ∀ q, (Value.slice (some ⟨g1, 0, none⟩) (lb + 1) cap1).ownBlock = some q → (Value.slice (some ⟨gg, 0, none⟩) (lw + 1) cap).ownBlock ≠ some q := fun q hq e => by
            have h1 : q = g1 := by simpa [Value.ownBlock] using hq.symm
            have h2 : q = gg := by simpa [Value.ownBlock] using e.symm
            rcases HA4.out with h3 | h3
            · exact HNE'.out (by rw [h3, ← h2, h1])
            · have := (OB'.out.2.lt g1 rfl).2; omega
          have kp2 := (KP'.out.grown HG.out (fun q hq => .inr (OW'.out.2.lt q hq).1)).set (p := ⟨w.heap.size + 1, 5, none⟩) (.inl (by simp)) (.slice (some ⟨gg, 0, none⟩) (lw + 1) cap)
          have K2' := Lib.hid k2'; clear k2'
          have BO2 := Lib.hid bo2; clear bo2
          have OW2 := Lib.hid ow2; clear ow2
          have OW3 := Lib.hid ow3; clear ow3
          have OB2 := Lib.hid ob2; clear ob2
          have HN2 := Lib.hid hn2; clear hn2
          have KP2 := Lib.hid kp2; clear kp2
          go_wp2_with fail
          go_roundw
          case rel => exact ⟨k + 1, _, _, lb + 1, lw + 1, by omega, by go_num, by rw [E3.out]; exact BO2.out, by rw [E1.out]; exact OB2.out, by rw [E2.out]; exact OW3.out, HN2.out, KP2.out⟩
          case measure => simp [intOf]; omega
      · have hip : isPos x = false := decide_eq_false hp
        rw [hip] at e1 e2
        simp only [Bool.false_eq_true, if_false] at e1 e2
        have hmi := HM.out.ext hb0r.out
        have cT := refTrue_any xA xl xc m x wr hmi (by omega) hxu
        rw [trueB_neg hp] at cT
        by_cases hin : -x ∈ m
        · have hd : decide (-x ∈ m) = true := decide_eq_true hin
          rw [if_neg (fun h => h.2 hin), Int.sub_zero] at e3
          rw [hd] at cT
          have E1 := Lib.hid e1; clear e1
          have E2 := Lib.hid e2; clear e2
          have E3 := Lib.hid e3; clear e3
          have BO := Lib.hid bo; clear bo
          have OB := Lib.hid ob; clear ob
          have OW := Lib.hid ow; clear ow
          have HNE := Lib.hid hne; clear hne
          have HKP := Lib.hid hkp; clear hkp
          have RR := Lib.hid rR; clear rR
          have HX := Lib.hid hx; clear hx
          have HY := Lib.hid hy; clear hy
          have HZP := Lib.hid hzp; clear hzp
          have HZ := Lib.hid hz; clear hz
          have HMI := Lib.hid hmi; clear hmi
          have CT := Lib.hid cT; clear cT
          have HD := Lib.hid hd; clear hd
          have HIN := Lib.hid hin; clear hin
          go_wp2_with fail
          go_fit CT.out; rintro e w' ⟨rfl, rfl⟩
          go_wp2_with fail
          go_roundw
          case rel => exact ⟨k + 1, _, _, lb, lw, by omega, by go_num, by rw [E3.out]; exact BO.out, by rw [E1.out]; exact OB.out, by rw [E2.out]; exact OW.out, HNE.out, HKP.out⟩
          case measure => simp [intOf]; omega
        · have hd : decide (-x ∈ m) = false := decide_eq_false hin
          rw [if_pos ⟨by omega, hin⟩] at e3
          rw [hd] at cT
          have hnk2 := HNB.out (k + 1)
          have z2 : -1048576 ≤ z - y := by have := HW0.out.2; omega
          have w0' : IntKind.i64.wrap (z - y) = z - y := IntWalk.i64_in _ (by omega)
          have kf3 : wr.frozen? ⟨w.heap.size + 1, 3, none⟩ = false := bo.frozen 3
          clear hnk2
          have k1' : Kept [w.heap.size + 1] wr ((wr.setCell ⟨w.heap.size + 1, 3, none⟩ (.int .i64 (z - y))).drew) := ((Kept.refl _ _).set (.inl (by simp)) _).drew
          have bo' : Blk ((wr.setCell ⟨w.heap.size + 1, 3, none⟩ (.int .i64 (z - y))).drew) (w.heap.size + 1) 55 #[.bool false, .slice none 0 0, .bool true, .int .i64 (z - y), bv, wv] := (bo.set_ 3 (.int .i64 (z - y))).drew
          have ob' := ob.keptS k1' (fun q hq hm => by have := (ob.2.lt q hq).1; have := HSZ.out; simp at hm; omega)
          have ow' := ow.keptS k1' (fun q hq hm => by have := (ow.2.lt q hq).1; have := HSZ.out; simp at hm; omega)
          have kp' := (hkp.set (p := ⟨w.heap.size + 1, 3, none⟩) (.inl (by simp)) (.int .i64 (z - y))).drew
          have E1 := Lib.hid e1; clear e1
          have E2 := Lib.hid e2; clear e2
          have E3 := Lib.hid e3; clear e3
          have BO := Lib.hid bo; clear bo
          have OB := Lib.hid ob; clear ob
          have OW := Lib.hid ow; clear ow
          have HNE := Lib.hid hne; clear hne
          have HKP := Lib.hid hkp; clear hkp
          have RR := Lib.hid rR; clear rR
          have HX := Lib.hid hx; clear hx
          have HY := Lib.hid hy; clear hy
          have HZP := Lib.hid hzp; clear hzp
          have HZ := Lib.hid hz; clear hz
          have HMI := Lib.hid hmi; clear hmi
          have CT := Lib.hid cT; clear cT
          have HD := Lib.hid hd; clear hd
          have HIN := Lib.hid hin; clear hin
          have BO' := Lib.hid bo'; clear bo'
          have OB' := Lib.hid ob'; clear ob'
          have OW' := Lib.hid ow'; clear ow'
          have KP' := Lib.hid kp'; clear kp'
          have K1' := Lib.hid k1'; clear k1'
          go_wp2_with fail
          go_fit CT.out; rintro e w' ⟨rfl, rfl⟩
          go_wp2_with fail
          go_region
          generalize (wr.setCell ⟨w.heap.size + 1, 3, none⟩ (.int .i64 (z - y))).drew = Y at *
          go_wp2_with fail
          go_roundw
          case rel => exact ⟨k + 1, _, _, lb, lw, by omega, by go_num, by rw [E3.out]; exact BO'.out, by rw [E1.out]; exact OB'.out, by rw [E2.out]; exact OW'.out, HNE.out, KP'.out⟩
          case measure => simp [intOf]; omega
    · have hkl : k = wl := by omega
      have hzl : (zp r).length ≤ wl := by
        have h3 : (zp r).length ≤ r.body.length := by unfold zp; rw [List.length_zip]; omega
        have h4 := HR.out.body.len
        omega
      rw [hkl, List.take_of_length_le hzl] at hz ow
      rw [hkl, List.take_of_length_le (by have := HR.out.body.len; omega)] at ob
      have r2 : wr.cell? ⟨w.heap.size, 2, none⟩ = some (.bool true) := rR.cell 2
      have o3 : wr.cell? ⟨w.heap.size + 1, 3, none⟩ = some (.int .i64 z) := bo.cell 3
      by_cases hz0 : z ≤ 0
      · have d1 : decide (z ≤ 0) = true := decide_eq_true hz0
        have hpr : posRule r m = ⟨false, [], false, 0, [], []⟩ := by rw [HFIN.out, if_pos (by rw [hz]; exact hz0)]; rfl
        have hxb := bo.row #[.bool false, .slice none 0 0, .bool false, .int .i64 0, .slice none 0 0, .slice none 0 0]
        have kw : Kept [w.heap.size + 1] W0 (wr.setRow (w.heap.size + 1) #[.bool false, .slice none 0 0, .bool false, .int .i64 0, .slice none 0 0, .slice none 0 0]) := hkp.row (.inl (by simp)) _
        have hrb := kw.blk BR.out (by simp)
        have hbw := Kept.below BW.out kw (by rw [HSZ.out]; omega) (fun q hq => by simp at hq; omega)
        have BO := Lib.hid bo; clear bo
        have OB := Lib.hid ob; clear ob
        have OW := Lib.hid ow; clear ow
        have HNE := Lib.hid hne; clear hne
        have HKP := Lib.hid hkp; clear hkp
        have RR := Lib.hid rR; clear rR
        have HZ := Lib.hid hz; clear hz
        have HKL := Lib.hid hkl; clear hkl
        have HZL := Lib.hid hzl; clear hzl
        have HPR := Lib.hid hpr; clear hpr
        have HXB := Lib.hid hxb; clear hxb
        have HRB := Lib.hid hrb; clear hrb
        have HBW := Lib.hid hbw; clear hbw
        have KW := Lib.hid kw; clear kw
        have hsb := SlIs.nil intR (wr.setRow (w.heap.size + 1) #[.bool false, .slice none 0 0, .bool false, .int .i64 0, .slice none 0 0, .slice none 0 0])
        have hsw := hsb
        have hfb := Frs.nil (w.heap.size + 1 + 1) none
        have hfw := hfb
        have hz : I64 0 := by simp [I64]
        clear hB
        have HSB := Lib.hid hsb; clear hsb
        have HSW := Lib.hid hsw; clear hsw
        have HFB := Lib.hid hfb; clear hfb
        have HFW := Lib.hid hfw; clear hfw
        have HZ := Lib.hid hz; clear hz
        have r0 : (wr.setRow (w.heap.size + 1) #[.bool false, .slice none 0 0, .bool false, .int .i64 0, .slice none 0 0, .slice none 0 0]).cell? ⟨w.heap.size, 0, none⟩ = some (.bool r.choice) := HRB.out.cell 0
        have r1 : (wr.setRow (w.heap.size + 1) #[.bool false, .slice none 0 0, .bool false, .int .i64 0, .slice none 0 0, .slice none 0 0]).cell? ⟨w.heap.size, 1, none⟩ = some (.slice hA hl hc) := HRB.out.cell 1
        have f1 : (wr.setRow (w.heap.size + 1) #[.bool false, .slice none 0 0, .bool false, .int .i64 0, .slice none 0 0, .slice none 0 0]).frozen? ⟨w.heap.size + 1, 1, none⟩ = false := HXB.out.frozen 1
        have x1 : (wr.setRow (w.heap.size + 1) #[.bool false, .slice none 0 0, .bool false, .int .i64 0, .slice none 0 0, .slice none 0 0]).cell? ⟨w.heap.size + 1, 1, none⟩ = some (.slice none 0 0) := HXB.out.cell 1
        have hXl : w.heap.size + 1 < (wr.setRow (w.heap.size + 1) #[.bool false, .slice none 0 0, .bool false, .int .i64 0, .slice none 0 0, .slice none 0 0]).heap.size := HXB.out.lt
        by_cases hch : r.choice = true
        · rw [hch] at r0
          have hred : redOne m r = (r.head.filter fun a => decide (a ∈ m)).map fun a => ⟨false, [a], false, 0, [], []⟩ := by
            unfold redOne; rw [HDD.out, HPR.out, hch]; rfl
          have HCH := Lib.hid hch; clear hch
          have HRED := Lib.hid hred; clear hred
          clear f1 x1
          go_wp2_with ((refine wpList_store_row (by rfl) 55 _ _ (by rfl) (w.heap.size + 1) #[.bool false, .slice none 0 0, .bool false, .int .i64 0, .slice none 0 0, .slice none 0 0] (by rfl) (by rfl) 55 _ BO.out info_rule (by rfl) (by simp [Value.oneCell']) ?_))
          clear r0 r1
          generalize wr.setRow (w.heap.size + 1) #[.bool false, .slice none 0 0, .bool false, .int .i64 0, .slice none 0 0, .slice none 0 0] = W at *
          go_loopw [8, 9] (fun v t wr => ∃ (j : Nat) (hv : Value), j ≤ hl ∧ t = .int .i64 (j : Int) ∧ RowO ruleR 55 ([w.heap.size + 1] ++ T) W.heap.size wr v (((r.head.take j).filter fun a => decide (a ∈ m)).map fun a => ⟨false, [a], false, 0, [], []⟩) ∧ Blk wr (w.heap.size + 1) 55 #[.bool false, hv, (.bool false), (.int .i64 0), .slice none 0 0, .slice none 0 0] ∧ Kept [w.heap.size + 1] W wr) (fun _ t _ => hl - (intOf t).toNat)
          case atStart => exact ⟨0, _, Nat.zero_le _, rfl, RowO.nil (Nat.le_refl _), HXB.out, Kept.refl _ _⟩
          case round =>
            obtain ⟨j, hv, hj, rfl, hro, hxb, hkp⟩ := hrel
            have hB := Lib.hid (Kept.below HBW.out hkp (by omega) (fun q hq => by simp at hq; omega))
            have r1 : wr.cell? ⟨w.heap.size, 1, none⟩ = some (.slice hA hl hc) := hkp.cell (HRB.out.cell 1) (by simp)
            have hsz2 := hkp.size
            have hlen : (((r.head.take j).filter fun a => decide (a ∈ m)).map fun a => (⟨false, [a], false, 0, [], []⟩ : GRule)).length ≤ j := by
              rw [List.length_map]
              exact Nat.le_trans (List.length_filter_le _ _) (List.length_take_le _ _)
            have hown : ∀ k, u8.ownBlock = some k → W.heap.size ≤ k ∧ k < wr.heap.size := fun k e => hro.lt e
            by_cases hlt : j < hl
            · obtain ⟨y, hy, -⟩ := HR.out.head.drop hlt
              obtain ⟨yb, yo, rfl, _, cy, hy64⟩ := (HR.out.head.ext (bel_trans HB0.out hB.out)).int hy
              have j0 : (0 : Int) ≤ (j : Int) := by omega
              have j1 : (j : Int) < (hl : Int) := by omega
              have cI := refIn_any xA xl xc m y wr (HM.out.ext (bel_trans HB0.out hB.out))
              have hst : ((r.head.take (j + 1)).filter fun a => decide (a ∈ m)) = if decide (y ∈ m) then ((r.head.take j).filter fun a => decide (a ∈ m)) ++ [y] else ((r.head.take j).filter fun a => decide (a ∈ m)) := by
                rw [take_snoc' hy, List.filter_append]
                by_cases h1 : y ∈ m <;> simp [h1]
              by_cases hin : decide (y ∈ m) = true
              · rw [hin] at cI hst
                rw [if_pos rfl] at hst
                have hX1 : w.heap.size + 1 < wr.heap.size := by omega
                have k1 : Kept [w.heap.size + 1] wr ((wr.setCell ⟨w.heap.size + 1, 1, none⟩ (.slice (some ⟨wr.heap.size, 0, none⟩) 1 1)).alloc (.cells #[.int .i64 y] 3)) := ((Kept.refl _ _).set (.inl (by simp)) _).alloc _
                have b1 : Blk ((wr.setCell ⟨w.heap.size + 1, 1, none⟩ (.slice (some ⟨wr.heap.size, 0, none⟩) 1 1)).alloc (.cells #[.int .i64 y] 3)) (w.heap.size + 1) 55 #[.bool false, .slice (some ⟨wr.heap.size, 0, none⟩) 1 1, (.bool false), (.int .i64 0), .slice none 0 0, .slice none 0 0] := (hxb.set_ 1 _).alloc _
                have b2 : Blk ((wr.setCell ⟨w.heap.size + 1, 1, none⟩ (.slice (some ⟨wr.heap.size, 0, none⟩) 1 1)).alloc (.cells #[.int .i64 y] 3)) wr.heap.size 3 #[.int .i64 y] := blk_new (by simp [World.setCell]) _ _
                have z1 : (((wr.setCell ⟨w.heap.size + 1, 1, none⟩ (.slice (some ⟨wr.heap.size, 0, none⟩) 1 1)).alloc (.cells #[.int .i64 y] 3))).heap.size = wr.heap.size + 1 := by simp [World.setCell]
                have ro1 := hro.step k1 (fun k hk => by
                  simp at hk; subst hk
                  exact ⟨.inl (by simp), fun e => by have := (hown _ e).1; omega⟩)
                have kw1 := hkp.trans k1
                have hTo : ∀ k ∈ ([w.heap.size + 1] ++ T) ++ ownL u8, k = w.heap.size + 1 ∨ k < w.heap.size + 1 + 1 ∨ W.heap.size ≤ k := fun k hk => by
                  rcases List.mem_append.1 hk with h1 | h1
                  · rcases List.mem_append.1 h1 with h2 | h2
                    · simp at h2; exact .inl h2
                    · have := (HT.out k h2).2; exact .inr (.inl (by omega))
                  · exact .inr (.inr (hown _ (ownL_mem.1 h1)).1)
                have hel : Stab ruleR (([w.heap.size + 1] ++ T) ++ ownL u8) ((wr.setCell ⟨w.heap.size + 1, 1, none⟩ (.slice (some ⟨wr.heap.size, 0, none⟩) 1 1)).alloc (.cells #[.int .i64 y] 3)) [.bool false, .slice (some ⟨wr.heap.size, 0, none⟩) 1 1, (.bool false), (.int .i64 0), .slice none 0 0, .slice none 0 0] ⟨false, [y], false, 0, [], []⟩ :=
                  Stab.rule (r := ⟨false, [y], false, 0, [], []⟩) (StabS.ints (sl_one' b2 hy64) (fun _ ad e hm => by
                      cases e
                      rcases List.mem_append.1 hm with h1 | h1
                      · rcases List.mem_append.1 h1 with h2 | h2
                        · simp at h2; omega
                        · have := (HT.out _ h2).2; simp at this; omega
                      · have := (hown _ (ownL_mem.1 h1)).2; simp at this)) HZ.out
                    (StabS.ints (HSB.out.keptM kw1 (off_between HSB.out HFB.out (fun k hk => by simp at hk; exact .inl hk) (by omega) (Nat.le_refl _))) (off_between HSB.out HFB.out hTo (by omega) (Nat.le_refl _)))
                    (StabS.ints (HSW.out.keptM kw1 (off_between HSW.out HFW.out (fun k hk => by simp at hk; exact .inl hk) (by omega) (Nat.le_refl _))) (off_between HSW.out HFW.out hTo (by omega) (Nat.le_refl _)))
                obtain ⟨v', w', hrun, ro2, hg, hat⟩ := ro1.app1 ety_rule _ _ hel (by omega) 24
                rw [z1] at hrun hat
                have kw2 := kw1.grown hg (fun k hk => .inr (hown _ hk).1)
                have xb2 := b1.grown hg (fun e => by have := (hown _ e.symm).1; omega)
                have hq : (((r.head.take (j + 1)).filter fun a => decide (a ∈ m)).map fun a => (⟨false, [a], false, 0, [], []⟩ : GRule)) = (((r.head.take j).filter fun a => decide (a ∈ m)).map fun a => (⟨false, [a], false, 0, [], []⟩ : GRule)) ++ [⟨false, [y], false, 0, [], []⟩] := by rw [hst, List.map_append]; rfl
                have f1 : (wr.alloc (.cells #[.int .i64 y] 3)).frozen? ⟨w.heap.size + 1, 1, none⟩ = false := (hxb.alloc _).frozen 1
                have l1 : w.heap.size + 1 < (wr.alloc (.cells #[.int .i64 y] 3)).heap.size := by simp; omega
                have hXc : (wr.alloc (.cells #[.int .i64 y] 3)).cell? ⟨w.heap.size + 1, 1, none⟩ = some hv := (hxb.alloc _).cell 1
                have HRO := Lib.hid hro; clear hro
                have HXB := Lib.hid hxb; clear hxb
                have HKP := Lib.hid hkp; clear hkp
                have HST := Lib.hid hst; clear hst
                have HIN := Lib.hid hin; clear hin
                have CI := Lib.hid cI; clear cI
                have HY := Lib.hid hy; clear hy
                have HY64 := Lib.hid hy64; clear hy64
                have K1 := Lib.hid k1; clear k1
                have B1 := Lib.hid b1; clear b1
                have B2 := Lib.hid b2; clear b2
                have Z1 := Lib.hid z1; clear z1
                have RO1 := Lib.hid ro1; clear ro1
                have KW1 := Lib.hid kw1; clear kw1
                have HTO := Lib.hid hTo; clear hTo
                have HEL := Lib.hid hel; clear hel
                have HRUN := Lib.hid hrun; clear hrun
                have RO2 := Lib.hid ro2; clear ro2
                have HG := Lib.hid hg; clear hg
                have HAT := Lib.hid hat; clear hat
                have KW2 := Lib.hid kw2; clear kw2
                have XB2 := Lib.hid xb2; clear xb2
                have HQ := Lib.hid hq; clear hq
                have HLEN := Lib.hid hlen; clear hlen
                have HOWN := Lib.hid hown; clear hown
                go_wp2_with fail
                go_fit CI.out; rintro e w' ⟨rfl, rfl⟩
                go_wp2_with (first
                  | (refine wpList_load_row (by rfl) 55 _ (by rfl) (w.heap.size + 1) (by rfl) 55 #[.bool false, .slice (some ⟨wr.heap.size, 0, none⟩) 1 1, (.bool false), (.int .i64 0), .slice none 0 0, .slice none 0 0] (0, 0) _ B1.out Tryz.underlying55 rfl info_rule ?_)
                  | (at_builtin; refine wpList_append_run rfl _ _ _ rfl _ _ rfl rfl _ _ HRUN.out ?_))
                go_roundw
                case rel => exact ⟨j + 1, _, by omega, by go_num, by rw [HQ.out]; exact RO2.out, XB2.out, KW2.out⟩
                case measure => simp [intOf]; omega
              · have hnf : decide (y ∈ m) = false := by simpa using hin
                rw [hnf] at cI hst
                rw [if_neg (by decide)] at hst
                have HRO := Lib.hid hro; clear hro
                have HXB := Lib.hid hxb; clear hxb
                have HKP := Lib.hid hkp; clear hkp
                have HST := Lib.hid hst; clear hst
                have HIN := Lib.hid hin; clear hin
                have HNF := Lib.hid hnf; clear hnf
                have CI := Lib.hid cI; clear cI
                have HY := Lib.hid hy; clear hy
                have HY64 := Lib.hid hy64; clear hy64
                have HLEN := Lib.hid hlen; clear hlen
                have HOWN := Lib.hid hown; clear hown
                go_wp2_with fail
                go_fit CI.out; rintro e w' ⟨rfl, rfl⟩
                go_wp2_with fail
                go_roundw
                case rel => exact ⟨j + 1, _, by omega, by go_num, by rw [HST.out]; exact HRO.out, HXB.out, HKP.out⟩
                case measure => simp [intOf]; omega
            · have hjl : r.head.take j = r.head := List.take_of_length_le (by have := HR.out.head.len; omega)
              rw [hjl, ← HRED.out] at hro hlen
              have hsm := HR.out.head.small
              obtain ⟨vA, vc, rfl, hfin⟩ := hro.stab (T := T) (by omega) (fun k hk => ⟨.inl (by simp [hk]), fun e => by have := (hown _ e).1; have := (HT.out k hk).2; omega⟩)
              have hfr : Frs w.heap.size vA (redOne m r).length := (RowO.fresh hro).mono (by omega)
              have HRO := Lib.hid hro; clear hro
              have HXB := Lib.hid hxb; clear hxb
              have HKP := Lib.hid hkp; clear hkp
              have HLEN := Lib.hid hlen; clear hlen
              have HFIN := Lib.hid hfin; clear hfin
              have HFR := Lib.hid hfr; clear hfr
              have HOWN := Lib.hid hown; clear hown
              have HJL := Lib.hid hjl; clear hjl
              go_wp2_with fail
              go_ret
              exact ⟨_, _, _, rfl, HFIN.out, HFR.out, hB.out⟩
        · have hcf : r.choice = false := by simpa using hch
          rw [hcf] at r0
          have hred : redOne m r = [⟨false, r.head, false, 0, [], []⟩] := by
            unfold redOne; rw [HDD.out, HPR.out, hcf]; rfl
          have k1 : Kept [w.heap.size + 1] (wr.setRow (w.heap.size + 1) #[.bool false, .slice none 0 0, .bool false, .int .i64 0, .slice none 0 0, .slice none 0 0]) ((wr.setRow (w.heap.size + 1) #[.bool false, .slice none 0 0, .bool false, .int .i64 0, .slice none 0 0, .slice none 0 0]).setCell ⟨w.heap.size + 1, 1, none⟩ (.slice hA hl hc)) := (Kept.refl _ _).set (.inl (by simp)) _
          have b1 : Blk ((wr.setRow (w.heap.size + 1) #[.bool false, .slice none 0 0, .bool false, .int .i64 0, .slice none 0 0, .slice none 0 0]).setCell ⟨w.heap.size + 1, 1, none⟩ (.slice hA hl hc)) (w.heap.size + 1) 55 #[.bool false, .slice hA hl hc, (.bool false), (.int .i64 0), .slice none 0 0, .slice none 0 0] := HXB.out.set_ 1 _
          have hB1 := Kept.below HBW.out k1 (by omega) (fun q hq => by simp at hq; omega)
          have hsz1 := k1.size
          have hB2 := bel_trans hB1 (bel_alloc ((wr.setRow (w.heap.size + 1) #[.bool false, .slice none 0 0, .bool false, .int .i64 0, .slice none 0 0, .slice none 0 0]).setCell ⟨w.heap.size + 1, 1, none⟩ (.slice hA hl hc)) (.cells #[.bool false, .slice hA hl hc, (.bool false), (.int .i64 0), .slice none 0 0, .slice none 0 0] 55))
          have k2 : Kept [w.heap.size + 1] (wr.setRow (w.heap.size + 1) #[.bool false, .slice none 0 0, .bool false, .int .i64 0, .slice none 0 0, .slice none 0 0]) (((wr.setRow (w.heap.size + 1) #[.bool false, .slice none 0 0, .bool false, .int .i64 0, .slice none 0 0, .slice none 0 0]).setCell ⟨w.heap.size + 1, 1, none⟩ (.slice hA hl hc)).alloc (.cells #[.bool false, .slice hA hl hc, (.bool false), (.int .i64 0), .slice none 0 0, .slice none 0 0] 55)) := k1.alloc _
          have hT1 : ∀ k ∈ T, k = w.heap.size + 1 ∨ k < w.heap.size + 1 + 1 ∨ (wr.setRow (w.heap.size + 1) #[.bool false, .slice none 0 0, .bool false, .int .i64 0, .slice none 0 0, .slice none 0 0]).heap.size ≤ k := fun k hk => by
            have := (HT.out k hk).2
            exact .inr (.inl (by omega))
          have hel : Stab ruleR T (((wr.setRow (w.heap.size + 1) #[.bool false, .slice none 0 0, .bool false, .int .i64 0, .slice none 0 0, .slice none 0 0]).setCell ⟨w.heap.size + 1, 1, none⟩ (.slice hA hl hc)).alloc (.cells #[.bool false, .slice hA hl hc, (.bool false), (.int .i64 0), .slice none 0 0, .slice none 0 0] 55)) [.bool false, .slice hA hl hc, (.bool false), (.int .i64 0), .slice none 0 0, .slice none 0 0] ⟨false, r.head, false, 0, [], []⟩ :=
            Stab.rule (r := ⟨false, r.head, false, 0, [], []⟩) (StabS.ints (HR.out.head.ext (bel_trans HB0.out hB2)) (off_before HR.out.head (fun k hk => (HT.out k hk).1))) HZ.out
              (StabS.ints (HSB.out.keptM k2 (off_between HSB.out HFB.out (fun k hk => by simp at hk; exact .inl hk) (by omega) (Nat.le_refl _))) (off_between HSB.out HFB.out hT1 (by omega) (Nat.le_refl _)))
              (StabS.ints (HSW.out.keptM k2 (off_between HSW.out HFW.out (fun k hk => by simp at hk; exact .inl hk) (by omega) (Nat.le_refl _))) (off_between HSW.out HFW.out hT1 (by omega) (Nat.le_refl _)))
          have hfin : StabS ruleR T (((wr.setRow (w.heap.size + 1) #[.bool false, .slice none 0 0, .bool false, .int .i64 0, .slice none 0 0, .slice none 0 0]).setCell ⟨w.heap.size + 1, 1, none⟩ (.slice hA hl hc)).alloc (.cells #[.bool false, .slice hA hl hc, (.bool false), (.int .i64 0), .slice none 0 0, .slice none 0 0] 55)) (some ⟨(((wr.setRow (w.heap.size + 1) #[.bool false, .slice none 0 0, .bool false, .int .i64 0, .slice none 0 0, .slice none 0 0]).setCell ⟨w.heap.size + 1, 1, none⟩ (.slice hA hl hc))).heap.size, 0, none⟩) 1 1 (redOne m r) := by
            rw [hred]
            exact stab_one hel (fun hm => by have := (HT.out _ hm).2; omega)
          have hfr : Frs w.heap.size (some ⟨(((wr.setRow (w.heap.size + 1) #[.bool false, .slice none 0 0, .bool false, .int .i64 0, .slice none 0 0, .slice none 0 0]).setCell ⟨w.heap.size + 1, 1, none⟩ (.slice hA hl hc))).heap.size, 0, none⟩) 1 := fun _ ad e => by cases e; show w.heap.size ≤ (((wr.setRow (w.heap.size + 1) #[.bool false, .slice none 0 0, .bool false, .int .i64 0, .slice none 0 0, .slice none 0 0]).setCell ⟨w.heap.size + 1, 1, none⟩ (.slice hA hl hc))).heap.size; omega
          have hws1 : (((wr.setRow (w.heap.size + 1) #[.bool false, .slice none 0 0, .bool false, .int .i64 0, .slice none 0 0, .slice none 0 0]).setCell ⟨w.heap.size + 1, 1, none⟩ (.slice hA hl hc))).heap.size = wr.heap.size := by simp [World.setCell]
          rw [hws1] at hfin hfr
          clear hws1
          have HCF := Lib.hid hcf; clear hcf
          have HRED := Lib.hid hred; clear hred
          have K1 := Lib.hid k1; clear k1
          have B1 := Lib.hid b1; clear b1
          have HB1 := Lib.hid hB1; clear hB1
          have HB2 := Lib.hid hB2; clear hB2
          have K2 := Lib.hid k2; clear k2
          have HT1 := Lib.hid hT1; clear hT1
          have HEL := Lib.hid hel; clear hel
          have HFIN := Lib.hid hfin; clear hfin
          have HFR := Lib.hid hfr; clear hfr
          go_wp2_with (first | (refine wpList_store_row (by rfl) 55 _ _ (by rfl) (w.heap.size + 1) #[.bool false, .slice none 0 0, .bool false, .int .i64 0, .slice none 0 0, .slice none 0 0] (by rfl) (by rfl) 55 _ BO.out info_rule (by rfl) (by simp [Value.oneCell']) ?_) | refine wpList_load_row (by rfl) 55 _ (by rfl) (w.heap.size + 1) (by rfl) 55 #[.bool false, .slice hA hl hc, (.bool false), (.int .i64 0), .slice none 0 0, .slice none 0 0] (0, 0) _ B1.out Tryz.underlying55 rfl info_rule ?_)
          go_ret
          exact ⟨_, _, _, rfl, HFIN.out, HFR.out, HB2.out⟩
      · have d1 : decide (z ≤ 0) = false := decide_eq_false hz0
        have hpr : posRule r m = ⟨false, [], true, z, r.body.filter isPos, posW (zp r)⟩ := by rw [HFIN.out, if_neg (by rw [hz]; exact hz0), hz]
        have hx1 : ∀ x ∈ r.body.filter isPos, I64 x := fun x hx => HR.out.body.all64 x (List.mem_filter.1 hx).1
        have hx2 : ∀ y ∈ posW (zp r), I64 y := fun y hy => by
          obtain ⟨x, hq⟩ := posW_mem hy
          exact HR.out.wt.all64 y (List.of_mem_zip hq).2
        obtain ⟨bA', bc', rfl, hsb⟩ := ob.sl (by omega) hx1
        obtain ⟨wA', wc', rfl, hsw⟩ := ow.sl (by omega) hx2
        have hfb := ob.fresh
        have hfw := ow.fresh
        rw [HSZ.out] at hfb hfw
        obtain ⟨W, rfl⟩ : ∃ W : World, W = wr := ⟨_, rfl⟩
        have hxb := bo
        have hrb := rR
        have HBW := hB
        clear hB
        have hz' : I64 z := ⟨by omega, by omega⟩
        have HZ := Lib.hid hz; clear hz
        have hz := hz'
        clear hz'
        have BO := Lib.hid bo; clear bo
        have OB := Lib.hid ob; clear ob
        have OW := Lib.hid ow; clear ow
        have HNE := Lib.hid hne; clear hne
        have HKP := Lib.hid hkp; clear hkp
        have RR := Lib.hid rR; clear rR
        have HKL := Lib.hid hkl; clear hkl
        have HZL := Lib.hid hzl; clear hzl
        have HPR := Lib.hid hpr; clear hpr
        have HX1 := Lib.hid hx1; clear hx1
        have HX2 := Lib.hid hx2; clear hx2
        have HSB := Lib.hid hsb; clear hsb
        have HSW := Lib.hid hsw; clear hsw
        have HFB := Lib.hid hfb; clear hfb
        have HFW := Lib.hid hfw; clear hfw
        have HXB := Lib.hid hxb; clear hxb
        have HRB := Lib.hid hrb; clear hrb
        have HZ := Lib.hid hz; clear hz
        have r0 : W.cell? ⟨w.heap.size, 0, none⟩ = some (.bool r.choice) := HRB.out.cell 0
        have r1 : W.cell? ⟨w.heap.size, 1, none⟩ = some (.slice hA hl hc) := HRB.out.cell 1
        have f1 : W.frozen? ⟨w.heap.size + 1, 1, none⟩ = false := HXB.out.frozen 1
        have x1 : W.cell? ⟨w.heap.size + 1, 1, none⟩ = some (.slice none 0 0) := HXB.out.cell 1
        have hXl : w.heap.size + 1 < W.heap.size := HXB.out.lt
        by_cases hch : r.choice = true
        · rw [hch] at r0
          have hred : redOne m r = (r.head.filter fun a => decide (a ∈ m)).map fun a => ⟨false, [a], true, z, (r.body.filter isPos), (posW (zp r))⟩ := by
            unfold redOne; rw [HDD.out, HPR.out, hch]; rfl
          have HCH := Lib.hid hch; clear hch
          have HRED := Lib.hid hred; clear hred
          clear f1 x1
          go_wp2_with (fail)
          clear r0 r1
          skip
          go_loopw [8, 9] (fun v t wr => ∃ (j : Nat) (hv : Value), j ≤ hl ∧ t = .int .i64 (j : Int) ∧ RowO ruleR 55 ([w.heap.size + 1] ++ T) W.heap.size wr v (((r.head.take j).filter fun a => decide (a ∈ m)).map fun a => ⟨false, [a], true, z, (r.body.filter isPos), (posW (zp r))⟩) ∧ Blk wr (w.heap.size + 1) 55 #[.bool false, hv, (.bool true), (.int .i64 z), .slice bA' lb bc', .slice wA' lw wc'] ∧ Kept [w.heap.size + 1] W wr) (fun _ t _ => hl - (intOf t).toNat)
          case atStart => exact ⟨0, _, Nat.zero_le _, rfl, RowO.nil (Nat.le_refl _), HXB.out, Kept.refl _ _⟩
          case round =>
            obtain ⟨j, hv, hj, rfl, hro, hxb, hkp⟩ := hrel
            have hB := Lib.hid (Kept.below HBW.out hkp (by omega) (fun q hq => by simp at hq; omega))
            have r1 : wr.cell? ⟨w.heap.size, 1, none⟩ = some (.slice hA hl hc) := hkp.cell (HRB.out.cell 1) (by simp)
            have hsz2 := hkp.size
            have hlen : (((r.head.take j).filter fun a => decide (a ∈ m)).map fun a => (⟨false, [a], true, z, (r.body.filter isPos), (posW (zp r))⟩ : GRule)).length ≤ j := by
              rw [List.length_map]
              exact Nat.le_trans (List.length_filter_le _ _) (List.length_take_le _ _)
            have hown : ∀ k, u8.ownBlock = some k → W.heap.size ≤ k ∧ k < wr.heap.size := fun k e => hro.lt e
            by_cases hlt : j < hl
            · obtain ⟨y, hy, -⟩ := HR.out.head.drop hlt
              obtain ⟨yb, yo, rfl, _, cy, hy64⟩ := (HR.out.head.ext (bel_trans HB0.out hB.out)).int hy
              have j0 : (0 : Int) ≤ (j : Int) := by omega
              have j1 : (j : Int) < (hl : Int) := by omega
              have cI := refIn_any xA xl xc m y wr (HM.out.ext (bel_trans HB0.out hB.out))
              have hst : ((r.head.take (j + 1)).filter fun a => decide (a ∈ m)) = if decide (y ∈ m) then ((r.head.take j).filter fun a => decide (a ∈ m)) ++ [y] else ((r.head.take j).filter fun a => decide (a ∈ m)) := by
                rw [take_snoc' hy, List.filter_append]
                by_cases h1 : y ∈ m <;> simp [h1]
              by_cases hin : decide (y ∈ m) = true
              · rw [hin] at cI hst
                rw [if_pos rfl] at hst
                have hX1 : w.heap.size + 1 < wr.heap.size := by omega
                have k1 : Kept [w.heap.size + 1] wr ((wr.setCell ⟨w.heap.size + 1, 1, none⟩ (.slice (some ⟨wr.heap.size, 0, none⟩) 1 1)).alloc (.cells #[.int .i64 y] 3)) := ((Kept.refl _ _).set (.inl (by simp)) _).alloc _
                have b1 : Blk ((wr.setCell ⟨w.heap.size + 1, 1, none⟩ (.slice (some ⟨wr.heap.size, 0, none⟩) 1 1)).alloc (.cells #[.int .i64 y] 3)) (w.heap.size + 1) 55 #[.bool false, .slice (some ⟨wr.heap.size, 0, none⟩) 1 1, (.bool true), (.int .i64 z), .slice bA' lb bc', .slice wA' lw wc'] := (hxb.set_ 1 _).alloc _
                have b2 : Blk ((wr.setCell ⟨w.heap.size + 1, 1, none⟩ (.slice (some ⟨wr.heap.size, 0, none⟩) 1 1)).alloc (.cells #[.int .i64 y] 3)) wr.heap.size 3 #[.int .i64 y] := blk_new (by simp [World.setCell]) _ _
                have z1 : (((wr.setCell ⟨w.heap.size + 1, 1, none⟩ (.slice (some ⟨wr.heap.size, 0, none⟩) 1 1)).alloc (.cells #[.int .i64 y] 3))).heap.size = wr.heap.size + 1 := by simp [World.setCell]
                have ro1 := hro.step k1 (fun k hk => by
                  simp at hk; subst hk
                  exact ⟨.inl (by simp), fun e => by have := (hown _ e).1; omega⟩)
                have kw1 := hkp.trans k1
                have hTo : ∀ k ∈ ([w.heap.size + 1] ++ T) ++ ownL u8, k = w.heap.size + 1 ∨ k < w.heap.size + 1 + 1 ∨ W.heap.size ≤ k := fun k hk => by
                  rcases List.mem_append.1 hk with h1 | h1
                  · rcases List.mem_append.1 h1 with h2 | h2
                    · simp at h2; exact .inl h2
                    · have := (HT.out k h2).2; exact .inr (.inl (by omega))
                  · exact .inr (.inr (hown _ (ownL_mem.1 h1)).1)
                have hel : Stab ruleR (([w.heap.size + 1] ++ T) ++ ownL u8) ((wr.setCell ⟨w.heap.size + 1, 1, none⟩ (.slice (some ⟨wr.heap.size, 0, none⟩) 1 1)).alloc (.cells #[.int .i64 y] 3)) [.bool false, .slice (some ⟨wr.heap.size, 0, none⟩) 1 1, (.bool true), (.int .i64 z), .slice bA' lb bc', .slice wA' lw wc'] ⟨false, [y], true, z, (r.body.filter isPos), (posW (zp r))⟩ :=
                  Stab.rule (r := ⟨false, [y], true, z, (r.body.filter isPos), (posW (zp r))⟩) (StabS.ints (sl_one' b2 hy64) (fun _ ad e hm => by
                      cases e
                      rcases List.mem_append.1 hm with h1 | h1
                      · rcases List.mem_append.1 h1 with h2 | h2
                        · simp at h2; omega
                        · have := (HT.out _ h2).2; simp at this; omega
                      · have := (hown _ (ownL_mem.1 h1)).2; simp at this)) HZ.out
                    (StabS.ints (HSB.out.keptM kw1 (off_between HSB.out HFB.out (fun k hk => by simp at hk; exact .inl hk) (by omega) (Nat.le_refl _))) (off_between HSB.out HFB.out hTo (by omega) (Nat.le_refl _)))
                    (StabS.ints (HSW.out.keptM kw1 (off_between HSW.out HFW.out (fun k hk => by simp at hk; exact .inl hk) (by omega) (Nat.le_refl _))) (off_between HSW.out HFW.out hTo (by omega) (Nat.le_refl _)))
                obtain ⟨v', w', hrun, ro2, hg, hat⟩ := ro1.app1 ety_rule _ _ hel (by omega) 24
                rw [z1] at hrun hat
                have kw2 := kw1.grown hg (fun k hk => .inr (hown _ hk).1)
                have xb2 := b1.grown hg (fun e => by have := (hown _ e.symm).1; omega)
                have hq : (((r.head.take (j + 1)).filter fun a => decide (a ∈ m)).map fun a => (⟨false, [a], true, z, (r.body.filter isPos), (posW (zp r))⟩ : GRule)) = (((r.head.take j).filter fun a => decide (a ∈ m)).map fun a => (⟨false, [a], true, z, (r.body.filter isPos), (posW (zp r))⟩ : GRule)) ++ [⟨false, [y], true, z, (r.body.filter isPos), (posW (zp r))⟩] := by rw [hst, List.map_append]; rfl
                have f1 : (wr.alloc (.cells #[.int .i64 y] 3)).frozen? ⟨w.heap.size + 1, 1, none⟩ = false := (hxb.alloc _).frozen 1
                have l1 : w.heap.size + 1 < (wr.alloc (.cells #[.int .i64 y] 3)).heap.size := by simp; omega
                have hXc : (wr.alloc (.cells #[.int .i64 y] 3)).cell? ⟨w.heap.size + 1, 1, none⟩ = some hv := (hxb.alloc _).cell 1
                have HRO := Lib.hid hro; clear hro
                have HXB := Lib.hid hxb; clear hxb
                have HKP := Lib.hid hkp; clear hkp
                have HST := Lib.hid hst; clear hst
                have HIN := Lib.hid hin; clear hin
                have CI := Lib.hid cI; clear cI
                have HY := Lib.hid hy; clear hy
                have HY64 := Lib.hid hy64; clear hy64
                have K1 := Lib.hid k1; clear k1
                have B1 := Lib.hid b1; clear b1
                have B2 := Lib.hid b2; clear b2
                have Z1 := Lib.hid z1; clear z1
                have RO1 := Lib.hid ro1; clear ro1
                have KW1 := Lib.hid kw1; clear kw1
                have HTO := Lib.hid hTo; clear hTo
                have HEL := Lib.hid hel; clear hel
                have HRUN := Lib.hid hrun; clear hrun
                have RO2 := Lib.hid ro2; clear ro2
                have HG := Lib.hid hg; clear hg
                have HAT := Lib.hid hat; clear hat
                have KW2 := Lib.hid kw2; clear kw2
                have XB2 := Lib.hid xb2; clear xb2
                have HQ := Lib.hid hq; clear hq
                have HLEN := Lib.hid hlen; clear hlen
                have HOWN := Lib.hid hown; clear hown
                go_wp2_with fail
                go_fit CI.out; rintro e w' ⟨rfl, rfl⟩
                go_wp2_with (first
                  | (refine wpList_load_row (by rfl) 55 _ (by rfl) (w.heap.size + 1) (by rfl) 55 #[.bool false, .slice (some ⟨wr.heap.size, 0, none⟩) 1 1, (.bool true), (.int .i64 z), .slice bA' lb bc', .slice wA' lw wc'] (0, 0) _ B1.out Tryz.underlying55 rfl info_rule ?_)
                  | (at_builtin; refine wpList_append_run rfl _ _ _ rfl _ _ rfl rfl _ _ HRUN.out ?_))
                go_roundw
                case rel => exact ⟨j + 1, _, by omega, by go_num, by rw [HQ.out]; exact RO2.out, XB2.out, KW2.out⟩
                case measure => simp [intOf]; omega
              · have hnf : decide (y ∈ m) = false := by simpa using hin
                rw [hnf] at cI hst
                rw [if_neg (by decide)] at hst
                have HRO := Lib.hid hro; clear hro
                have HXB := Lib.hid hxb; clear hxb
                have HKP := Lib.hid hkp; clear hkp
                have HST := Lib.hid hst; clear hst
                have HIN := Lib.hid hin; clear hin
                have HNF := Lib.hid hnf; clear hnf
                have CI := Lib.hid cI; clear cI
                have HY := Lib.hid hy; clear hy
                have HY64 := Lib.hid hy64; clear hy64
                have HLEN := Lib.hid hlen; clear hlen
                have HOWN := Lib.hid hown; clear hown
                go_wp2_with fail
                go_fit CI.out; rintro e w' ⟨rfl, rfl⟩
                go_wp2_with fail
                go_roundw
                case rel => exact ⟨j + 1, _, by omega, by go_num, by rw [HST.out]; exact HRO.out, HXB.out, HKP.out⟩
                case measure => simp [intOf]; omega
            · have hjl : r.head.take j = r.head := List.take_of_length_le (by have := HR.out.head.len; omega)
              rw [hjl, ← HRED.out] at hro hlen
              have hsm := HR.out.head.small
              obtain ⟨vA, vc, rfl, hfin⟩ := hro.stab (T := T) (by omega) (fun k hk => ⟨.inl (by simp [hk]), fun e => by have := (hown _ e).1; have := (HT.out k hk).2; omega⟩)
              have hfr : Frs w.heap.size vA (redOne m r).length := (RowO.fresh hro).mono (by omega)
              have HRO := Lib.hid hro; clear hro
              have HXB := Lib.hid hxb; clear hxb
              have HKP := Lib.hid hkp; clear hkp
              have HLEN := Lib.hid hlen; clear hlen
              have HFIN := Lib.hid hfin; clear hfin
              have HFR := Lib.hid hfr; clear hfr
              have HOWN := Lib.hid hown; clear hown
              have HJL := Lib.hid hjl; clear hjl
              go_wp2_with fail
              go_ret
              exact ⟨_, _, _, rfl, HFIN.out, HFR.out, hB.out⟩
        · have hcf : r.choice = false := by simpa using hch
          rw [hcf] at r0
          have hred : redOne m r = [⟨false, r.head, true, z, (r.body.filter isPos), (posW (zp r))⟩] := by
            unfold redOne; rw [HDD.out, HPR.out, hcf]; rfl
          have k1 : Kept [w.heap.size + 1] W (W.setCell ⟨w.heap.size + 1, 1, none⟩ (.slice hA hl hc)) := (Kept.refl _ _).set (.inl (by simp)) _
          have b1 : Blk (W.setCell ⟨w.heap.size + 1, 1, none⟩ (.slice hA hl hc)) (w.heap.size + 1) 55 #[.bool false, .slice hA hl hc, (.bool true), (.int .i64 z), .slice bA' lb bc', .slice wA' lw wc'] := HXB.out.set_ 1 _
          have hB1 := Kept.below HBW.out k1 (by omega) (fun q hq => by simp at hq; omega)
          have hsz1 := k1.size
          have hB2 := bel_trans hB1 (bel_alloc (W.setCell ⟨w.heap.size + 1, 1, none⟩ (.slice hA hl hc)) (.cells #[.bool false, .slice hA hl hc, (.bool true), (.int .i64 z), .slice bA' lb bc', .slice wA' lw wc'] 55))
          have k2 : Kept [w.heap.size + 1] W ((W.setCell ⟨w.heap.size + 1, 1, none⟩ (.slice hA hl hc)).alloc (.cells #[.bool false, .slice hA hl hc, (.bool true), (.int .i64 z), .slice bA' lb bc', .slice wA' lw wc'] 55)) := k1.alloc _
          have hT1 : ∀ k ∈ T, k = w.heap.size + 1 ∨ k < w.heap.size + 1 + 1 ∨ W.heap.size ≤ k := fun k hk => by
            have := (HT.out k hk).2
            exact .inr (.inl (by omega))
          have hel : Stab ruleR T ((W.setCell ⟨w.heap.size + 1, 1, none⟩ (.slice hA hl hc)).alloc (.cells #[.bool false, .slice hA hl hc, (.bool true), (.int .i64 z), .slice bA' lb bc', .slice wA' lw wc'] 55)) [.bool false, .slice hA hl hc, (.bool true), (.int .i64 z), .slice bA' lb bc', .slice wA' lw wc'] ⟨false, r.head, true, z, (r.body.filter isPos), (posW (zp r))⟩ :=
            Stab.rule (r := ⟨false, r.head, true, z, (r.body.filter isPos), (posW (zp r))⟩) (StabS.ints (HR.out.head.ext (bel_trans HB0.out hB2)) (off_before HR.out.head (fun k hk => (HT.out k hk).1))) HZ.out
              (StabS.ints (HSB.out.keptM k2 (off_between HSB.out HFB.out (fun k hk => by simp at hk; exact .inl hk) (by omega) (Nat.le_refl _))) (off_between HSB.out HFB.out hT1 (by omega) (Nat.le_refl _)))
              (StabS.ints (HSW.out.keptM k2 (off_between HSW.out HFW.out (fun k hk => by simp at hk; exact .inl hk) (by omega) (Nat.le_refl _))) (off_between HSW.out HFW.out hT1 (by omega) (Nat.le_refl _)))
          have hfin : StabS ruleR T ((W.setCell ⟨w.heap.size + 1, 1, none⟩ (.slice hA hl hc)).alloc (.cells #[.bool false, .slice hA hl hc, (.bool true), (.int .i64 z), .slice bA' lb bc', .slice wA' lw wc'] 55)) (some ⟨((W.setCell ⟨w.heap.size + 1, 1, none⟩ (.slice hA hl hc))).heap.size, 0, none⟩) 1 1 (redOne m r) := by
            rw [hred]
            exact stab_one hel (fun hm => by have := (HT.out _ hm).2; omega)
          have hfr : Frs w.heap.size (some ⟨((W.setCell ⟨w.heap.size + 1, 1, none⟩ (.slice hA hl hc))).heap.size, 0, none⟩) 1 := fun _ ad e => by cases e; show w.heap.size ≤ ((W.setCell ⟨w.heap.size + 1, 1, none⟩ (.slice hA hl hc))).heap.size; omega
          have hws1 : ((W.setCell ⟨w.heap.size + 1, 1, none⟩ (.slice hA hl hc))).heap.size = W.heap.size := by simp [World.setCell]
          rw [hws1] at hfin hfr
          clear hws1
          have HCF := Lib.hid hcf; clear hcf
          have HRED := Lib.hid hred; clear hred
          have K1 := Lib.hid k1; clear k1
          have B1 := Lib.hid b1; clear b1
          have HB1 := Lib.hid hB1; clear hB1
          have HB2 := Lib.hid hB2; clear hB2
          have K2 := Lib.hid k2; clear k2
          have HT1 := Lib.hid hT1; clear hT1
          have HEL := Lib.hid hel; clear hel
          have HFIN := Lib.hid hfin; clear hfin
          have HFR := Lib.hid hfr; clear hfr
          go_wp2_with (first | fail | refine wpList_load_row (by rfl) 55 _ (by rfl) (w.heap.size + 1) (by rfl) 55 #[.bool false, .slice hA hl hc, (.bool true), (.int .i64 z), .slice bA' lb bc', .slice wA' lw wc'] (0, 0) _ B1.out Tryz.underlying55 rfl info_rule ?_)
          go_ret
          exact ⟨_, _, _, rfl, HFIN.out, HFR.out, HB2.out⟩
set_option maxRecDepth 100000 in
set_option maxHeartbeats 4000000 in
theorem refReducedP_any (r : GRule) (hA : Option Addr) (hl hc : Nat) (bA : Option Addr) (bl bc : Nat) (wA : Option Addr) (wl wc : Nat) (xA : Option Addr) (xl xc : Nat) (m : List Int) (n : Int) (w0 w : World) (hb0 : Below w0.heap.size w0 w) (hr : RuleIn w0 r hA hl hc bA bl bc wA wl wc) (hm : SlIs intR w0 xA xl xc m) (hi : RuleIs r n) (T : List Nat) (hT : ∀ k ∈ T, w0.heap.size ≤ k ∧ k < w.heap.size) (hs : r.sum = false) :
    Calls Tryz.prog 114 #[.agg #[.bool r.choice, .slice hA hl hc, .bool r.sum, .int .i64 r.bound, .slice bA bl bc, .slice wA wl wc], .slice xA xl xc] w fun e w' => ∃ A l c, e = .returned (.slice A l c) ∧ StabS ruleR T w' A l c (redOne m r) ∧ Frs w.heap.size A l ∧ Below w.heap.size w w' := by
  have hbc := hr.body.cap
  have hbm := hr.body.max
  have hhc := hr.head.cap
  have hhm := hr.head.max
  have hh4 : hl ≤ 4000 := by have h1 := inc_len' hi.head hi.n0; have h2 := hi.n1; have h3 := hr.head.len; omega
  have hbs := hr.body.small
  have hfin : posRule r m = ⟨false, [], false, r.bound, r.body.filter isPos, []⟩ := by unfold posRule; rw [hs]; rfl
  have hdr : dropB r m = r.body.any (badL m) := by unfold dropB; rw [hs]; rfl
  have hrb0 := hr.bound
  have HR := Lib.hid hr; clear hr
  have HM := Lib.hid hm; clear hm
  have HI := Lib.hid hi; clear hi
  have HFIN := Lib.hid hfin; clear hfin
  have HB0 := Lib.hid hb0; clear hb0
  have HDR := Lib.hid hdr; clear hdr
  have HT := Lib.hid hT; clear hT
  have HRB0 := Lib.hid hrb0; clear hrb0
  rw [hs]
  have HS := Lib.hid hs; clear hs
  go_enter Tryz.func114, Tryz.ntmps114
  go_wp2_with fail
  have hW : Blk ((w.alloc (.cells #[.bool r.choice, .slice hA hl hc, .bool false, .int .i64 r.bound, .slice bA bl bc, .slice wA wl wc] 55)).alloc (.cells #[.bool false, .slice none 0 0, .bool false, .int .i64 r.bound, .slice none 0 0, .slice none 0 0] 55)) w.heap.size 55 #[.bool r.choice, .slice hA hl hc, .bool false, .int .i64 r.bound, .slice bA bl bc, .slice wA wl wc] ∧ Blk ((w.alloc (.cells #[.bool r.choice, .slice hA hl hc, .bool false, .int .i64 r.bound, .slice bA bl bc, .slice wA wl wc] 55)).alloc (.cells #[.bool false, .slice none 0 0, .bool false, .int .i64 r.bound, .slice none 0 0, .slice none 0 0] 55)) (w.heap.size + 1) 55 #[.bool false, .slice none 0 0, .bool false, .int .i64 r.bound, .slice none 0 0, .slice none 0 0] ∧ Below w.heap.size w ((w.alloc (.cells #[.bool r.choice, .slice hA hl hc, .bool false, .int .i64 r.bound, .slice bA bl bc, .slice wA wl wc] 55)).alloc (.cells #[.bool false, .slice none 0 0, .bool false, .int .i64 r.bound, .slice none 0 0, .slice none 0 0] 55)) ∧ (((w.alloc (.cells #[.bool r.choice, .slice hA hl hc, .bool false, .int .i64 r.bound, .slice bA bl bc, .slice wA wl wc] 55)).alloc (.cells #[.bool false, .slice none 0 0, .bool false, .int .i64 r.bound, .slice none 0 0, .slice none 0 0] 55))).heap.size = w.heap.size + 1 + 1 :=
    ⟨(blk_new rfl _ _).alloc _, blk_new (by simp) _ _, bel_trans (bel_alloc _ _) (bel_alloc _ _), by simp⟩
  generalize ((w.alloc (.cells #[.bool r.choice, .slice hA hl hc, .bool false, .int .i64 r.bound, .slice bA bl bc, .slice wA wl wc] 55)).alloc (.cells #[.bool false, .slice none 0 0, .bool false, .int .i64 r.bound, .slice none 0 0, .slice none 0 0] 55)) = W0 at *
  obtain ⟨bR, bO, bW, hsz⟩ := hW
  have BR := Lib.hid bR; clear bR
  have BO := Lib.hid bO; clear bO
  have BW := Lib.hid bW; clear bW
  have HSZ := Lib.hid hsz; clear hsz
  go_loopw [6] (fun t wr => ∃ (k : Nat) (bv : Value) (lb : Nat), k ≤ bl ∧ t = .int .i64 (k : Int) ∧ Blk wr (w.heap.size + 1) 55 #[.bool false, .slice none 0 0, .bool false, .int .i64 r.bound, bv, .slice none 0 0] ∧ OwnI wr W0.heap.size bv lb ((r.body.take k).filter isPos) ∧
      (r.body.take k).any (badL m) = false ∧ Kept [(w.heap.size + 1)] W0 wr) (fun t _ => bl - (intOf t).toNat)
  case atStart => exact ⟨0, _, 0, Nat.zero_le _, rfl, BO.out, OwnI.nil _ _, rfl, Kept.refl _ _⟩
  case round =>
    obtain ⟨k, bv, lb, hk, rfl, bo, ob, hgd, hkp⟩ := hrel
    have hB := Lib.hid (Kept.below BW.out hkp (by rw [HSZ.out]; omega) (fun q hq => by simp at hq; omega))
    have rR := hkp.blk BR.out (by simp)
    have hz0 := HSZ.out
    have hz1 := hkp.size
    have hlb : lb ≤ k := by
      rw [ob.len]
      have h1 := List.length_filter_le isPos (r.body.take k)
      have h2 := List.length_take_le k r.body
      omega
    have hbl : w.heap.size + 1 < wr.heap.size := by omega
    clear hz0
    have r2 : wr.cell? ⟨w.heap.size, 2, none⟩ = some (.bool false) := rR.cell 2
    have r4 : wr.cell? ⟨w.heap.size, 4, none⟩ = some (.slice bA bl bc) := rR.cell 4
    by_cases hlt : k < bl
    · obtain ⟨x, hx, -⟩ := HR.out.body.drop hlt
      have hb0r := Lib.hid (bel_trans HB0.out hB.out)
      obtain ⟨xb, xo, rfl, lx, cx, _⟩ := HR.out.body.int hx
      replace cx := (hb0r.out.cell (World.block_lt_of_cell? _ _ cx)).trans cx
      have hxl := HI.out.ok.lit x (List.mem_of_getElem? hx)
      have hxu := (HR.out.body.all64 x (List.mem_of_getElem? hx)).2
      have e1 := filt_take hx
      have e4 := any_take (p := badL m) hx
      rw [hgd, Bool.false_or] at e4
      have o4 : wr.cell? ⟨w.heap.size + 1, 4, none⟩ = some bv := bo.cell 4
      have k0 : (0 : Int) ≤ (k : Int) := by omega
      have k1 : (k : Int) < (bl : Int) := by omega
      by_cases hp : 0 < x
      · have hip : isPos x = true := decide_eq_true hp
        rw [hip, if_pos rfl] at e1
        have e5 : badL m x = false := by unfold badL; rw [hip]; rfl
        rw [e5] at e4
        obtain ⟨v1, w3, hrun, own1, hg1, hat1⟩ := app1 ob x (by omega) (by omega) 23
        obtain ⟨g1, cap1, rfl, hgb1, hgl1⟩ := World.ownsRow.form own1.2 (by omega)
        have hro : some (w.heap.size + 1) ≠ bv.ownBlock := fun e => by have := (ob.2.lt _ e.symm).1; have := HSZ.out; omega
        have c4 := (hg1.cell_far ⟨w.heap.size + 1, 4, none⟩ hbl hro).trans o4
        have f4 := (hg1.frozen_far ⟨w.heap.size + 1, 4, none⟩ hbl hro).trans (bo.frozen 4)
        have k1' : Kept [w.heap.size + 1] w3 (w3.setCell ⟨w.heap.size + 1, 4, none⟩ (.slice (some ⟨g1, 0, none⟩) (lb + 1) cap1)) := (Kept.refl _ _).set (.inl (by simp)) _
        have bo' : Blk (w3.setCell ⟨w.heap.size + 1, 4, none⟩ (.slice (some ⟨g1, 0, none⟩) (lb + 1) cap1)) (w.heap.size + 1) 55 #[.bool false, .slice none 0 0, .bool false, .int .i64 r.bound, .slice (some ⟨g1, 0, none⟩) (lb + 1) cap1, .slice none 0 0] := (bo.grown hg1 hro).set_ 4 _
        have ob' := own1.keptS k1' (fun q hq hm => by have := (own1.2.lt q hq).1; have := HSZ.out; simp at hm; omega)
        have kp' := (hkp.grown hg1 (fun q hq => .inr (ob.2.lt q hq).1)).set (p := ⟨w.heap.size + 1, 4, none⟩) (.inl (by simp)) (.slice (some ⟨g1, 0, none⟩) (lb + 1) cap1)
        have c2 := (hg1.cell_far ⟨w.heap.size, 2, none⟩ (show w.heap.size < wr.heap.size by omega) (fun e => by have h5 : W0.heap.size ≤ w.heap.size := (ob.2.lt _ e.symm).1; have := HSZ.out; omega)).trans r2
        have E1 := Lib.hid e1; clear e1
        have E4 := Lib.hid e4; clear e4
        have E5 := Lib.hid e5; clear e5
        have BO := Lib.hid bo; clear bo
        have OB := Lib.hid ob; clear ob
        have HKP := Lib.hid hkp; clear hkp
        have RR := Lib.hid rR; clear rR
        have HX := Lib.hid hx; clear hx
        have HRUN := Lib.hid hrun; clear hrun
        have OWN1 := Lib.hid own1; clear own1
        have HG1 := Lib.hid hg1; clear hg1
        have HAT1 := Lib.hid hat1; clear hat1
        have BO' := Lib.hid bo'; clear bo'
        have OB' := Lib.hid ob'; clear ob'
        have KP' := Lib.hid kp'; clear kp'
        have HRO := Lib.hid hro; clear hro
        have HGD := Lib.hid hgd; clear hgd
        clear r2
        go_wp2_with (at_builtin; refine wpList_append_run rfl _ _ _ rfl _ _ rfl rfl _ _ HRUN.out ?_)
        go_roundw
        case rel => exact ⟨k + 1, _, lb + 1, by omega, by go_num, BO'.out, by rw [E1.out]; exact OB'.out, E4.out, KP'.out⟩
        case measure => simp [intOf]; omega
      · have hip : isPos x = false := decide_eq_false hp
        rw [hip] at e1
        simp only [Bool.false_eq_true, if_false] at e1
        have hmi := HM.out.ext hb0r.out
        have cT := refTrue_any xA xl xc m x wr hmi (by omega) hxu
        rw [trueB_neg hp] at cT
        by_cases hin : -x ∈ m
        · have hd : decide (-x ∈ m) = true := decide_eq_true hin
          rw [hd] at cT
          have hdd : dropB r m = true := by
            rw [HDR.out, List.any_eq_true]
            exact ⟨x, List.mem_of_getElem? hx, by unfold badL; rw [hip, hd]; rfl⟩
          have hred : redOne m r = [] := by unfold redOne; rw [hdd]; rfl
          have E1 := Lib.hid e1; clear e1
          have E4 := Lib.hid e4; clear e4
          have BO := Lib.hid bo; clear bo
          have OB := Lib.hid ob; clear ob
          have HKP := Lib.hid hkp; clear hkp
          have RR := Lib.hid rR; clear rR
          have HX := Lib.hid hx; clear hx
          have HMI := Lib.hid hmi; clear hmi
          have CT := Lib.hid cT; clear cT
          have HD := Lib.hid hd; clear hd
          have HIN := Lib.hid hin; clear hin
          have HDD := Lib.hid hdd; clear hdd
          have HGD := Lib.hid hgd; clear hgd
          have HRED := Lib.hid hred; clear hred
          go_wp2_with fail
          go_fit CT.out; rintro e w' ⟨rfl, rfl⟩
          go_wp2_with fail
          go_ret
          exact ⟨none, 0, 0, rfl, by rw [HRED.out]; exact StabS.nil _ _ _, Frs.nil _ _, hB.out⟩
        · have hd : decide (-x ∈ m) = false := decide_eq_false hin
          rw [hd] at cT
          have e5 : badL m x = false := by unfold badL; rw [hd]; simp
          rw [e5] at e4
          have E1 := Lib.hid e1; clear e1
          have E4 := Lib.hid e4; clear e4
          have E5 := Lib.hid e5; clear e5
          have BO := Lib.hid bo; clear bo
          have OB := Lib.hid ob; clear ob
          have HKP := Lib.hid hkp; clear hkp
          have RR := Lib.hid rR; clear rR
          have HX := Lib.hid hx; clear hx
          have HMI := Lib.hid hmi; clear hmi
          have CT := Lib.hid cT; clear cT
          have HD := Lib.hid hd; clear hd
          have HIN := Lib.hid hin; clear hin
          have HGD := Lib.hid hgd; clear hgd
          go_wp2_with fail
          go_fit CT.out; rintro e w' ⟨rfl, rfl⟩
          go_wp2_with fail
          go_roundw
          case rel => exact ⟨k + 1, _, lb, by omega, by go_num, BO.out, by rw [E1.out]; exact OB.out, E4.out, HKP.out⟩
          case measure => simp [intOf]; omega
    · have hkl : k = bl := by omega
      rw [hkl, List.take_of_length_le (by have := HR.out.body.len; omega)] at ob hgd
      have hdd : dropB r m = false := by rw [HDR.out]; exact hgd
      have hx1 : ∀ x ∈ r.body.filter isPos, I64 x := fun x hx => HR.out.body.all64 x (List.mem_filter.1 hx).1
      have hpr := HFIN.out
      obtain ⟨bA', bc', rfl, hsb⟩ := ob.sl (by omega) hx1
      have hfb := ob.fresh
      rw [HSZ.out] at hfb
      obtain ⟨W, rfl⟩ : ∃ W : World, W = wr := ⟨_, rfl⟩
      have hxb := bo
      have hrb := rR
      have HBW := hB
      clear hB
      have hz := HRB0.out
      have hsw := SlIs.nil intR W
      have hfw := Frs.nil (w.heap.size + 1 + 1) none
      have BO := Lib.hid bo; clear bo
      have OB := Lib.hid ob; clear ob
      have HKP := Lib.hid hkp; clear hkp
      have RR := Lib.hid rR; clear rR
      have HKL := Lib.hid hkl; clear hkl
      have HDD := Lib.hid hdd; clear hdd
      have HGD := Lib.hid hgd; clear hgd
      have HPR := Lib.hid hpr; clear hpr
      have HX1 := Lib.hid hx1; clear hx1
      have HSB := Lib.hid hsb; clear hsb
      have HSW := Lib.hid hsw; clear hsw
      have HFB := Lib.hid hfb; clear hfb
      have HFW := Lib.hid hfw; clear hfw
      have HXB := Lib.hid hxb; clear hxb
      have HRB := Lib.hid hrb; clear hrb
      have HZ := Lib.hid hz; clear hz
      have r0 : W.cell? ⟨w.heap.size, 0, none⟩ = some (.bool r.choice) := HRB.out.cell 0
      have r1 : W.cell? ⟨w.heap.size, 1, none⟩ = some (.slice hA hl hc) := HRB.out.cell 1
      have f1 : W.frozen? ⟨w.heap.size + 1, 1, none⟩ = false := HXB.out.frozen 1
      have x1 : W.cell? ⟨w.heap.size + 1, 1, none⟩ = some (.slice none 0 0) := HXB.out.cell 1
      have hXl : w.heap.size + 1 < W.heap.size := HXB.out.lt
      by_cases hch : r.choice = true
      · rw [hch] at r0
        have hred : redOne m r = (r.head.filter fun a => decide (a ∈ m)).map fun a => ⟨false, [a], false, r.bound, (r.body.filter isPos), []⟩ := by
          unfold redOne; rw [HDD.out, HPR.out, hch]; rfl
        have HCH := Lib.hid hch; clear hch
        have HRED := Lib.hid hred; clear hred
        clear f1 x1
        go_wp2_with (fail)
        clear r0 r1
        skip
        go_loopw [8, 9] (fun v t wr => ∃ (j : Nat) (hv : Value), j ≤ hl ∧ t = .int .i64 (j : Int) ∧ RowO ruleR 55 ([w.heap.size + 1] ++ T) W.heap.size wr v (((r.head.take j).filter fun a => decide (a ∈ m)).map fun a => ⟨false, [a], false, r.bound, (r.body.filter isPos), []⟩) ∧ Blk wr (w.heap.size + 1) 55 #[.bool false, hv, (.bool false), (.int .i64 r.bound), .slice bA' lb bc', .slice none 0 0] ∧ Kept [w.heap.size + 1] W wr) (fun _ t _ => hl - (intOf t).toNat)
        case atStart => exact ⟨0, _, Nat.zero_le _, rfl, RowO.nil (Nat.le_refl _), HXB.out, Kept.refl _ _⟩
        case round =>
          obtain ⟨j, hv, hj, rfl, hro, hxb, hkp⟩ := hrel
          have hB := Lib.hid (Kept.below HBW.out hkp (by omega) (fun q hq => by simp at hq; omega))
          have r1 : wr.cell? ⟨w.heap.size, 1, none⟩ = some (.slice hA hl hc) := hkp.cell (HRB.out.cell 1) (by simp)
          have hsz2 := hkp.size
          have hlen : (((r.head.take j).filter fun a => decide (a ∈ m)).map fun a => (⟨false, [a], false, r.bound, (r.body.filter isPos), []⟩ : GRule)).length ≤ j := by
            rw [List.length_map]
            exact Nat.le_trans (List.length_filter_le _ _) (List.length_take_le _ _)
          have hown : ∀ k, u8.ownBlock = some k → W.heap.size ≤ k ∧ k < wr.heap.size := fun k e => hro.lt e
          by_cases hlt : j < hl
          · obtain ⟨y, hy, -⟩ := HR.out.head.drop hlt
            obtain ⟨yb, yo, rfl, _, cy, hy64⟩ := (HR.out.head.ext (bel_trans HB0.out hB.out)).int hy
            have j0 : (0 : Int) ≤ (j : Int) := by omega
            have j1 : (j : Int) < (hl : Int) := by omega
            have cI := refIn_any xA xl xc m y wr (HM.out.ext (bel_trans HB0.out hB.out))
            have hst : ((r.head.take (j + 1)).filter fun a => decide (a ∈ m)) = if decide (y ∈ m) then ((r.head.take j).filter fun a => decide (a ∈ m)) ++ [y] else ((r.head.take j).filter fun a => decide (a ∈ m)) := by
              rw [take_snoc' hy, List.filter_append]
              by_cases h1 : y ∈ m <;> simp [h1]
            by_cases hin : decide (y ∈ m) = true
            · rw [hin] at cI hst
              rw [if_pos rfl] at hst
              have hX1 : w.heap.size + 1 < wr.heap.size := by omega
              have k1 : Kept [w.heap.size + 1] wr ((wr.setCell ⟨w.heap.size + 1, 1, none⟩ (.slice (some ⟨wr.heap.size, 0, none⟩) 1 1)).alloc (.cells #[.int .i64 y] 3)) := ((Kept.refl _ _).set (.inl (by simp)) _).alloc _
              have b1 : Blk ((wr.setCell ⟨w.heap.size + 1, 1, none⟩ (.slice (some ⟨wr.heap.size, 0, none⟩) 1 1)).alloc (.cells #[.int .i64 y] 3)) (w.heap.size + 1) 55 #[.bool false, .slice (some ⟨wr.heap.size, 0, none⟩) 1 1, (.bool false), (.int .i64 r.bound), .slice bA' lb bc', .slice none 0 0] := (hxb.set_ 1 _).alloc _
              have b2 : Blk ((wr.setCell ⟨w.heap.size + 1, 1, none⟩ (.slice (some ⟨wr.heap.size, 0, none⟩) 1 1)).alloc (.cells #[.int .i64 y] 3)) wr.heap.size 3 #[.int .i64 y] := blk_new (by simp [World.setCell]) _ _
              have z1 : (((wr.setCell ⟨w.heap.size + 1, 1, none⟩ (.slice (some ⟨wr.heap.size, 0, none⟩) 1 1)).alloc (.cells #[.int .i64 y] 3))).heap.size = wr.heap.size + 1 := by simp [World.setCell]
              have ro1 := hro.step k1 (fun k hk => by
                simp at hk; subst hk
                exact ⟨.inl (by simp), fun e => by have := (hown _ e).1; omega⟩)
              have kw1 := hkp.trans k1
              have hTo : ∀ k ∈ ([w.heap.size + 1] ++ T) ++ ownL u8, k = w.heap.size + 1 ∨ k < w.heap.size + 1 + 1 ∨ W.heap.size ≤ k := fun k hk => by
                rcases List.mem_append.1 hk with h1 | h1
                · rcases List.mem_append.1 h1 with h2 | h2
                  · simp at h2; exact .inl h2
                  · have := (HT.out k h2).2; exact .inr (.inl (by omega))
                · exact .inr (.inr (hown _ (ownL_mem.1 h1)).1)
              have hel : Stab ruleR (([w.heap.size + 1] ++ T) ++ ownL u8) ((wr.setCell ⟨w.heap.size + 1, 1, none⟩ (.slice (some ⟨wr.heap.size, 0, none⟩) 1 1)).alloc (.cells #[.int .i64 y] 3)) [.bool false, .slice (some ⟨wr.heap.size, 0, none⟩) 1 1, (.bool false), (.int .i64 r.bound), .slice bA' lb bc', .slice none 0 0] ⟨false, [y], false, r.bound, (r.body.filter isPos), []⟩ :=
                Stab.rule (r := ⟨false, [y], false, r.bound, (r.body.filter isPos), []⟩) (StabS.ints (sl_one' b2 hy64) (fun _ ad e hm => by
                    cases e
                    rcases List.mem_append.1 hm with h1 | h1
                    · rcases List.mem_append.1 h1 with h2 | h2
                      · simp at h2; omega
                      · have := (HT.out _ h2).2; simp at this; omega
                    · have := (hown _ (ownL_mem.1 h1)).2; simp at this)) HZ.out
                  (StabS.ints (HSB.out.keptM kw1 (off_between HSB.out HFB.out (fun k hk => by simp at hk; exact .inl hk) (by omega) (Nat.le_refl _))) (off_between HSB.out HFB.out hTo (by omega) (Nat.le_refl _)))
                  (StabS.ints (HSW.out.keptM kw1 (off_between HSW.out HFW.out (fun k hk => by simp at hk; exact .inl hk) (by omega) (Nat.le_refl _))) (off_between HSW.out HFW.out hTo (by omega) (Nat.le_refl _)))
              obtain ⟨v', w', hrun, ro2, hg, hat⟩ := ro1.app1 ety_rule _ _ hel (by omega) 24
              rw [z1] at hrun hat
              have kw2 := kw1.grown hg (fun k hk => .inr (hown _ hk).1)
              have xb2 := b1.grown hg (fun e => by have := (hown _ e.symm).1; omega)
              have hq : (((r.head.take (j + 1)).filter fun a => decide (a ∈ m)).map fun a => (⟨false, [a], false, r.bound, (r.body.filter isPos), []⟩ : GRule)) = (((r.head.take j).filter fun a => decide (a ∈ m)).map fun a => (⟨false, [a], false, r.bound, (r.body.filter isPos), []⟩ : GRule)) ++ [⟨false, [y], false, r.bound, (r.body.filter isPos), []⟩] := by rw [hst, List.map_append]; rfl
              have f1 : (wr.alloc (.cells #[.int .i64 y] 3)).frozen? ⟨w.heap.size + 1, 1, none⟩ = false := (hxb.alloc _).frozen 1
              have l1 : w.heap.size + 1 < (wr.alloc (.cells #[.int .i64 y] 3)).heap.size := by simp; omega
              have hXc : (wr.alloc (.cells #[.int .i64 y] 3)).cell? ⟨w.heap.size + 1, 1, none⟩ = some hv := (hxb.alloc _).cell 1
              have HRO := Lib.hid hro; clear hro
              have HXB := Lib.hid hxb; clear hxb
              have HKP := Lib.hid hkp; clear hkp
              have HST := Lib.hid hst; clear hst
              have HIN := Lib.hid hin; clear hin
              have CI := Lib.hid cI; clear cI
              have HY := Lib.hid hy; clear hy
              have HY64 := Lib.hid hy64; clear hy64
              have K1 := Lib.hid k1; clear k1
              have B1 := Lib.hid b1; clear b1
              have B2 := Lib.hid b2; clear b2
              have Z1 := Lib.hid z1; clear z1
              have RO1 := Lib.hid ro1; clear ro1
              have KW1 := Lib.hid kw1; clear kw1
              have HTO := Lib.hid hTo; clear hTo
              have HEL := Lib.hid hel; clear hel
              have HRUN := Lib.hid hrun; clear hrun
              have RO2 := Lib.hid ro2; clear ro2
              have HG := Lib.hid hg; clear hg
              have HAT := Lib.hid hat; clear hat
              have KW2 := Lib.hid kw2; clear kw2
              have XB2 := Lib.hid xb2; clear xb2
              have HQ := Lib.hid hq; clear hq
              have HLEN := Lib.hid hlen; clear hlen
              have HOWN := Lib.hid hown; clear hown
              go_wp2_with fail
              go_fit CI.out; rintro e w' ⟨rfl, rfl⟩
              go_wp2_with (first
                | (refine wpList_load_row (by rfl) 55 _ (by rfl) (w.heap.size + 1) (by rfl) 55 #[.bool false, .slice (some ⟨wr.heap.size, 0, none⟩) 1 1, (.bool false), (.int .i64 r.bound), .slice bA' lb bc', .slice none 0 0] (0, 0) _ B1.out Tryz.underlying55 rfl info_rule ?_)
                | (at_builtin; refine wpList_append_run rfl _ _ _ rfl _ _ rfl rfl _ _ HRUN.out ?_))
              go_roundw
              case rel => exact ⟨j + 1, _, by omega, by go_num, by rw [HQ.out]; exact RO2.out, XB2.out, KW2.out⟩
              case measure => simp [intOf]; omega
            · have hnf : decide (y ∈ m) = false := by simpa using hin
              rw [hnf] at cI hst
              rw [if_neg (by decide)] at hst
              have HRO := Lib.hid hro; clear hro
              have HXB := Lib.hid hxb; clear hxb
              have HKP := Lib.hid hkp; clear hkp
              have HST := Lib.hid hst; clear hst
              have HIN := Lib.hid hin; clear hin
              have HNF := Lib.hid hnf; clear hnf
              have CI := Lib.hid cI; clear cI
              have HY := Lib.hid hy; clear hy
              have HY64 := Lib.hid hy64; clear hy64
              have HLEN := Lib.hid hlen; clear hlen
              have HOWN := Lib.hid hown; clear hown
              go_wp2_with fail
              go_fit CI.out; rintro e w' ⟨rfl, rfl⟩
              go_wp2_with fail
              go_roundw
              case rel => exact ⟨j + 1, _, by omega, by go_num, by rw [HST.out]; exact HRO.out, HXB.out, HKP.out⟩
              case measure => simp [intOf]; omega
          · have hjl : r.head.take j = r.head := List.take_of_length_le (by have := HR.out.head.len; omega)
            rw [hjl, ← HRED.out] at hro hlen
            have hsm := HR.out.head.small
            obtain ⟨vA, vc, rfl, hfin⟩ := hro.stab (T := T) (by omega) (fun k hk => ⟨.inl (by simp [hk]), fun e => by have := (hown _ e).1; have := (HT.out k hk).2; omega⟩)
            have hfr : Frs w.heap.size vA (redOne m r).length := (RowO.fresh hro).mono (by omega)
            have HRO := Lib.hid hro; clear hro
            have HXB := Lib.hid hxb; clear hxb
            have HKP := Lib.hid hkp; clear hkp
            have HLEN := Lib.hid hlen; clear hlen
            have HFIN := Lib.hid hfin; clear hfin
            have HFR := Lib.hid hfr; clear hfr
            have HOWN := Lib.hid hown; clear hown
            have HJL := Lib.hid hjl; clear hjl
            go_wp2_with fail
            go_ret
            exact ⟨_, _, _, rfl, HFIN.out, HFR.out, hB.out⟩
      · have hcf : r.choice = false := by simpa using hch
        rw [hcf] at r0
        have hred : redOne m r = [⟨false, r.head, false, r.bound, (r.body.filter isPos), []⟩] := by
          unfold redOne; rw [HDD.out, HPR.out, hcf]; rfl
        have k1 : Kept [w.heap.size + 1] W (W.setCell ⟨w.heap.size + 1, 1, none⟩ (.slice hA hl hc)) := (Kept.refl _ _).set (.inl (by simp)) _
        have b1 : Blk (W.setCell ⟨w.heap.size + 1, 1, none⟩ (.slice hA hl hc)) (w.heap.size + 1) 55 #[.bool false, .slice hA hl hc, (.bool false), (.int .i64 r.bound), .slice bA' lb bc', .slice none 0 0] := HXB.out.set_ 1 _
        have hB1 := Kept.below HBW.out k1 (by omega) (fun q hq => by simp at hq; omega)
        have hsz1 := k1.size
        have hB2 := bel_trans hB1 (bel_alloc (W.setCell ⟨w.heap.size + 1, 1, none⟩ (.slice hA hl hc)) (.cells #[.bool false, .slice hA hl hc, (.bool false), (.int .i64 r.bound), .slice bA' lb bc', .slice none 0 0] 55))
        have k2 : Kept [w.heap.size + 1] W ((W.setCell ⟨w.heap.size + 1, 1, none⟩ (.slice hA hl hc)).alloc (.cells #[.bool false, .slice hA hl hc, (.bool false), (.int .i64 r.bound), .slice bA' lb bc', .slice none 0 0] 55)) := k1.alloc _
        have hT1 : ∀ k ∈ T, k = w.heap.size + 1 ∨ k < w.heap.size + 1 + 1 ∨ W.heap.size ≤ k := fun k hk => by
          have := (HT.out k hk).2
          exact .inr (.inl (by omega))
        have hel : Stab ruleR T ((W.setCell ⟨w.heap.size + 1, 1, none⟩ (.slice hA hl hc)).alloc (.cells #[.bool false, .slice hA hl hc, (.bool false), (.int .i64 r.bound), .slice bA' lb bc', .slice none 0 0] 55)) [.bool false, .slice hA hl hc, (.bool false), (.int .i64 r.bound), .slice bA' lb bc', .slice none 0 0] ⟨false, r.head, false, r.bound, (r.body.filter isPos), []⟩ :=
          Stab.rule (r := ⟨false, r.head, false, r.bound, (r.body.filter isPos), []⟩) (StabS.ints (HR.out.head.ext (bel_trans HB0.out hB2)) (off_before HR.out.head (fun k hk => (HT.out k hk).1))) HZ.out
            (StabS.ints (HSB.out.keptM k2 (off_between HSB.out HFB.out (fun k hk => by simp at hk; exact .inl hk) (by omega) (Nat.le_refl _))) (off_between HSB.out HFB.out hT1 (by omega) (Nat.le_refl _)))
            (StabS.ints (HSW.out.keptM k2 (off_between HSW.out HFW.out (fun k hk => by simp at hk; exact .inl hk) (by omega) (Nat.le_refl _))) (off_between HSW.out HFW.out hT1 (by omega) (Nat.le_refl _)))
        have hfin : StabS ruleR T ((W.setCell ⟨w.heap.size + 1, 1, none⟩ (.slice hA hl hc)).alloc (.cells #[.bool false, .slice hA hl hc, (.bool false), (.int .i64 r.bound), .slice bA' lb bc', .slice none 0 0] 55)) (some ⟨((W.setCell ⟨w.heap.size + 1, 1, none⟩ (.slice hA hl hc))).heap.size, 0, none⟩) 1 1 (redOne m r) := by
          rw [hred]
          exact stab_one hel (fun hm => by have := (HT.out _ hm).2; omega)
        have hfr : Frs w.heap.size (some ⟨((W.setCell ⟨w.heap.size + 1, 1, none⟩ (.slice hA hl hc))).heap.size, 0, none⟩) 1 := fun _ ad e => by cases e; show w.heap.size ≤ ((W.setCell ⟨w.heap.size + 1, 1, none⟩ (.slice hA hl hc))).heap.size; omega
        have hws1 : ((W.setCell ⟨w.heap.size + 1, 1, none⟩ (.slice hA hl hc))).heap.size = W.heap.size := by simp [World.setCell]
        rw [hws1] at hfin hfr
        clear hws1
        have HCF := Lib.hid hcf; clear hcf
        have HRED := Lib.hid hred; clear hred
        have K1 := Lib.hid k1; clear k1
        have B1 := Lib.hid b1; clear b1
        have HB1 := Lib.hid hB1; clear hB1
        have HB2 := Lib.hid hB2; clear hB2
        have K2 := Lib.hid k2; clear k2
        have HT1 := Lib.hid hT1; clear hT1
        have HEL := Lib.hid hel; clear hel
        have HFIN := Lib.hid hfin; clear hfin
        have HFR := Lib.hid hfr; clear hfr
        go_wp2_with (first | fail | refine wpList_load_row (by rfl) 55 _ (by rfl) (w.heap.size + 1) (by rfl) 55 #[.bool false, .slice hA hl hc, (.bool false), (.int .i64 r.bound), .slice bA' lb bc', .slice none 0 0] (0, 0) _ B1.out Tryz.underlying55 rfl info_rule ?_)
        go_ret
        exact ⟨_, _, _, rfl, HFIN.out, HFR.out, HB2.out⟩
theorem refReduced_any (r : GRule) (hA : Option Addr) (hl hc : Nat) (bA : Option Addr) (bl bc : Nat) (wA : Option Addr) (wl wc : Nat) (xA : Option Addr) (xl xc : Nat) (m : List Int) (n : Int) (w0 w : World) (hb0 : Below w0.heap.size w0 w) (hr : RuleIn w0 r hA hl hc bA bl bc wA wl wc) (hm : SlIs intR w0 xA xl xc m) (hi : RuleIs r n) (T : List Nat) (hT : ∀ k ∈ T, w0.heap.size ≤ k ∧ k < w.heap.size) :
    Calls Tryz.prog 114 #[.agg #[.bool r.choice, .slice hA hl hc, .bool r.sum, .int .i64 r.bound, .slice bA bl bc, .slice wA wl wc], .slice xA xl xc] w fun e w' => ∃ A l c, e = .returned (.slice A l c) ∧ StabS ruleR T w' A l c (redOne m r) ∧ Frs w.heap.size A l ∧ Below w.heap.size w w' := by
  by_cases hs : r.sum = true
  · exact refReducedS_any r _ _ _ _ _ _ _ _ _ _ _ _ m n w0 w hb0 hr hm hi T hT hs
  · exact refReducedP_any r _ _ _ _ _ _ _ _ _ _ _ _ m n w0 w hb0 hr hm hi T hT (by simpa using hs)
end Go.Proofs.YtamdammaeaeilaaGreat

/- Several texts in one: Fin, Gaw. -/
import Derived.Test.YtbfbkpoakmnlpaaGreatG4
import Derived.Test.YtbfbkpoakmnlpaaGreatGT
import Derived.Test.YtbfbkpoakmnlpaaGreatGU
import Derived.Test.YtbfbkpoakmnlpaaGreatGW
import Derived.Test.YtbfbkpoakmnlpaaGreatRat
/- ostlerlaw21.fine, and what every function of the package says about an invalid program. -/
namespace Go.Proofs.YtbfbkpoakmnlpaaGreat
open Go.RowKit
def fineB (p : GProg) : Bool := fewB p && decide (validE p = 0)
theorem fine_is {p : GProg} (h : fineB p = true) : fewB p = true ∧ validE p = 0 := by
 unfold fineB at h
 simpa only [Bool.and_eq_true,decide_eq_true_eq] using h
theorem fine_n {p : GProg} (h : fewB p = true) : p.n ≤ 12 := by
 unfold fewB at h; simp only [Bool.and_eq_true,decide_eq_true_eq] at h; exact h.1.1.1.1.1
set_option maxRecDepth 100000 in
set_option maxHeartbeats 2000000 in
theorem fine_any (p : GProg) (nA : Option Addr) (nl nc : Nat) (sA : Option Addr) (sl sc : Nat) (rA : Option Addr) (rl rc : Nat) (mA : Option Addr) (ml mc : Nat) (w : World) (hp : ProgIn w p nA nl nc sA sl sc rA rl rc mA ml mc) :
  Calls Tryz.prog 4 #[.agg #[.int .i64 p.n,.slice nA nl nc,.slice sA sl sc,.slice rA rl rc,.slice mA ml mc]] w fun e w' => e = .returned (.bool (fineB p)) ∧ Below w.heap.size w w' := by
 have cF := fun W (hb : Below w.heap.size w W) => few_any p nA nl nc sA sl sc rA rl rc mA ml mc W (hp.ext hb)
 have cV := fun W (hb : Below w.heap.size w W) => valid_any p nA nl nc sA sl sc rA rl rc mA ml mc W (hp.ext hb)
 have hs : fineB p = (fewB p && decide (validE p = 0)) := rfl
 generalize fineB p = sm at *
 cases hf : fewB p with
 | false =>
  rw [hf] at cF hs
  simp only [Bool.false_and] at hs
  subst hs
  have HF := Lib.hid hf; clear hf
  have CF := Lib.hid cF; clear cF
  have CV := Lib.hid cV; clear cV
  have HP := Lib.hid hp; clear hp
  go_enter Tryz.func4,Tryz.ntmps4
  go_wp2_with fail
  go_fit (CF.out _ (bel_alloc _ _)); rintro e w1 ⟨rfl,hb1⟩
  have HB1 := Lib.hid (bel_trans (bel_alloc _ _) hb1)
  clear hb1
  go_wp2_with fail
  go_ret
  exact ⟨rfl,HB1.out⟩
 | true =>
  rw [hf] at cF hs
  simp only [Bool.true_and] at hs
  generalize validE p = v at *
  have hdv : (v == 0) = decide (v = 0) := by simp [BEq.beq]
  rw [← hs] at hdv
  clear hs
  have HF := Lib.hid hf; clear hf
  have CF := Lib.hid cF; clear cF
  have CV := Lib.hid cV; clear cV
  have HP := Lib.hid hp; clear hp
  go_enter Tryz.func4,Tryz.ntmps4
  go_wp2_with fail
  go_fit (CF.out _ (bel_alloc _ _)); rintro e w1 ⟨rfl,hb1⟩
  have hx1 := (Blk.new w 27 #[.int .i64 p.n,.slice nA nl nc,.slice sA sl sc,.slice rA rl rc,.slice mA ml mc]).bel hb1
  obtain ⟨p0,p1,p2,p3,p4,p5⟩ := pcells hx1
  have HB1 := Lib.hid (bel_trans (bel_alloc _ _) hb1)
  clear hb1
  have HX1 := Lib.hid hx1; clear hx1
  go_wp2_with fail
  go_fit (CV.out _ HB1.out); rintro e w2 ⟨rfl,hb2⟩
  have HB2 := Lib.hid (bel_trans HB1.out hb2)
  clear hb2
  go_wp2_with fail
  go_ret
  exact ⟨rfl,HB2.out⟩
/-! ### three ways to spoil a valid program -/
end Go.Proofs.YtbfbkpoakmnlpaaGreat
/- The examples of chapter 21 stand (ostlerlaw21.awake). -/
namespace Go.Proofs.YtbfbkpoakmnlpaaGreat
open Go.RowKit
def gxEL : List (Int × Int) := [(1,2),(2,1),(3,2),(4,2),(5,3),(5,5)]
def gxCL : List (List Int) := [[1,2],[3],[4],[5]]
theorem gxE_sl {W : World} {g : Nat} {t : TypeId} (h : Blk W g t #[.int .i64 1,.int .i64 2,.int .i64 2,.int .i64 1,.int .i64 3,.int .i64 2,.int .i64 4,.int .i64 2,.int .i64 5,.int .i64 3,.int .i64 5,.int .i64 5]) : SlIs pairR W (some ⟨g,0,none⟩) 6 6 gxEL :=
 sl_of_cells h rfl (by omega) fun i x hx => by
  refine ⟨[.int .i64 x.1,.int .i64 x.2],⟨rfl,?_⟩,fun j u hu => ?_⟩
  ·have hm := List.mem_of_getElem? hx
   simp only [gxEL,List.mem_cons,List.not_mem_nil,or_false] at hm
   rcases hm with rfl | rfl | rfl | rfl | rfl | rfl <;> simp [I64]
  ·match i,hx with
   | 0,hx => cases hx; match j,hu with | 0,hu => exact hu | 1,hu => exact hu | j + 2,hu => simp at hu
   | 1,hx => cases hx; match j,hu with | 0,hu => exact hu | 1,hu => exact hu | j + 2,hu => simp at hu
   | 2,hx => cases hx; match j,hu with | 0,hu => exact hu | 1,hu => exact hu | j + 2,hu => simp at hu
   | 3,hx => cases hx; match j,hu with | 0,hu => exact hu | 1,hu => exact hu | j + 2,hu => simp at hu
   | 4,hx => cases hx; match j,hu with | 0,hu => exact hu | 1,hu => exact hu | j + 2,hu => simp at hu
   | 5,hx => cases hx; match j,hu with | 0,hu => exact hu | 1,hu => exact hu | j + 2,hu => simp at hu
   | i + 6,hx => simp [gxEL] at hx
def gxCO (n : Nat) : List Obj := [.cells #[.int .i64 1,.int .i64 2] 3,.cells #[.int .i64 3] 3,.cells #[.int .i64 4] 3,.cells #[.int .i64 5] 3,
 .cells #[.slice (some ⟨n + 0,0,none⟩) 2 2,.slice (some ⟨n + 1,0,none⟩) 1 1,.slice (some ⟨n + 2,0,none⟩) 1 1,.slice (some ⟨n + 3,0,none⟩) 1 1] 23]
theorem gxC_sl (w : World) : SlIs (slR intR) (allocs w (gxCO w.heap.size)) (some ⟨w.heap.size + 4,0,none⟩) 4 4 gxCL := by
 have h : ∀ i cs t,(gxCO w.heap.size)[i]? = some (.cells cs t) → Blk (allocs w (gxCO w.heap.size)) (w.heap.size + i) t cs := fun _ _ _ h => allocs_blk _ h
 exact sl_setsAt (h 4 _ _ rfl) ⟨i2 _ _ _ _ (h 0 _ _ rfl) (by simp [I64]) (by simp [I64]),i1 _ _ _ (h 1 _ _ rfl) (by simp [I64]),i1 _ _ _ (h 2 _ _ rfl) (by simp [I64]),i1 _ _ _ (h 3 _ _ rfl) (by simp [I64]),trivial⟩ rfl (by omega)
theorem gx_edges : edgeL gxP = [(1,2),(2,1),(3,2),(4,2),(5,3),(5,5)] := by unfold edgeL rowPr; simp only [gx_of]; kernel_rfl
theorem gx_comps : compsL gxP = [[1,2],[3],[4],[5]] := by unfold compsL; rw [gx_of,gx_comp,gx_sort]
theorem gx_tight : tightB gxP = false := by unfold tightB; simp only [gx_of,gx_comp]; kernel_rfl
theorem gx_free : freeB gxP = false := by unfold freeB; rw [gx_of,gx_comp]; kernel_rfl
theorem gx_free4 : freeB gx4 = true := by unfold freeB; rw [gx_of4,gx_comp]; kernel_rfl
theorem gx_cycle : cycL gxP = [5] := by unfold cycL; rw [gx_of]; exact gx_cyc
theorem gx_cycle3 : cycL gx3 = [1,2] := by unfold cycL; rw [gx_of3]; exact gx_cyc3
theorem SlIs.take4 {α : Type} {R : Rep α} {w : World} {A : Option Addr} {l c : Nat} {xs : List α} (h : SlIs R w A l c xs) {m : Nat} (hm : m ≤ l) : SlIs R w A m c (xs.take m) := by
 refine ⟨by rw [List.length_take]; have := h.1; omega,Nat.le_trans hm h.2.1,⟨h.2.2.1.1,Nat.le_trans hm h.2.2.1.2⟩,fun h0 => ?_⟩
 obtain ⟨ad,e,hl,hc⟩ := h.2.2.2 (by omega)
 refine ⟨ad,e,hl,fun i x hx => hc i x ?_⟩
 rw [List.getElem?_take] at hx
 split at hx
 ·exact hx
 ·exact absurd hx (by simp)
structure GxAt (b : Nat) (w1 : World) (nA : Option Addr) (nl nc : Nat) (rA : Option Addr) : Prop where
 sz : w1.heap.size = b
 nm : SlIs strR w1 nA nl nc gxN
 rl : SlIs ruleR w1 rA 5 5 [gr1,gr2,gr3,gr4,gr5]
theorem pcells21 {W : World} {b : Nat} {v0 v1 v2 v3 v4 : Value} (h : Blk W b 27 #[v0,v1,v2,v3,v4]) : W.cell? ⟨b,0,none⟩ = some v0 ∧ W.cell? ⟨b,1,none⟩ = some v1 ∧ W.cell? ⟨b,2,none⟩ = some v2 ∧ W.cell? ⟨b,3,none⟩ = some v3 ∧ W.cell? ⟨b,4,none⟩ = some v4 ∧ b < W.heap.size := ⟨h.cell 0,h.cell 1,h.cell 2,h.cell 3,h.cell 4,h.lt⟩
section
variable {w1 W : World} {nA rA : Option Addr} {nl nc b : Nat}
theorem GxAt.p (h : GxAt b w1 nA nl nc rA) (hb : Below w1.heap.size w1 W) : ProgIn W gxP nA nl nc none 0 0 rA 5 5 none 0 0 := ⟨by simp [I64,gxP],h.nm.ext hb,SlIs.nil _ _,h.rl.ext hb,SlIs.nil _ _⟩
theorem GxAt.p4 (h : GxAt b w1 nA nl nc rA) (hb : Below w1.heap.size w1 W) : ProgIn W gx4 nA nl nc none 0 0 rA 4 5 none 0 0 := ⟨by simp [I64,gx4],h.nm.ext hb,SlIs.nil _ _,SlIs.take4 (h.rl.ext hb) (m := 4) (by omega),SlIs.nil _ _⟩
theorem GxAt.p3 (h : GxAt b w1 nA nl nc rA) (hb : Below w1.heap.size w1 W) : ProgIn W gx3 nA nl nc none 0 0 rA 3 5 none 0 0 := ⟨by simp [I64,gx3],h.nm.ext hb,SlIs.nil _ _,SlIs.take4 (h.rl.ext hb) (m := 3) (by omega),SlIs.nil _ _⟩
theorem GxAt.pM (h : GxAt b w1 nA nl nc rA) (hb : Below w1.heap.size w1 W) : ProgIn W gxM nA nl nc none 0 0 rA 3 5 none 0 0 := ⟨by simp [I64,gxM],h.nm.ext hb,SlIs.nil _ _,SlIs.take4 (h.rl.ext hb) (m := 3) (by omega),SlIs.nil _ _⟩
theorem aw21_edges (h : GxAt b w1 nA nl nc rA) (hb : Below w1.heap.size w1 W) : Calls Tryz.prog 7 #[.agg #[.int .i64 5,.slice nA nl nc,.slice none 0 0,.slice rA 5 5,.slice none 0 0]] W fun e w' => ∃ A l c,e = .returned (.tuple #[.slice A l c,.int .i64 0]) ∧ SlIs pairR w' A l c [(1,2),(2,1),(3,2),(4,2),(5,3),(5,5)] ∧ Frs W.heap.size A l ∧ Below W.heap.size W w' :=
 gx_edges ▸ edges_any gxP nA nl nc none 0 0 rA 5 5 none 0 0 W (h.p hb) gx_v
theorem aw21_comps (h : GxAt b w1 nA nl nc rA) (hb : Below w1.heap.size w1 W) : Calls Tryz.prog 14 #[.agg #[.int .i64 5,.slice nA nl nc,.slice none 0 0,.slice rA 5 5,.slice none 0 0]] W fun e w' => ∃ A l c,e = .returned (.tuple #[.slice A l c,.int .i64 0]) ∧ SlIs (frR W.heap.size) w' A l c [[1,2],[3],[4],[5]] ∧ Frs W.heap.size A l ∧ Below W.heap.size W w' :=
 gx_comps ▸ comps_fr gxP nA nl nc none 0 0 rA 5 5 none 0 0 W (h.p hb) gx_v
theorem aw21_tight (h : GxAt b w1 nA nl nc rA) (hb : Below w1.heap.size w1 W) : Calls Tryz.prog 15 #[.agg #[.int .i64 5,.slice nA nl nc,.slice none 0 0,.slice rA 5 5,.slice none 0 0]] W fun e w' => e = .returned (.tuple #[.bool false,.int .i64 0]) ∧ Below W.heap.size W w' :=
 gx_tight ▸ tight_any gxP nA nl nc none 0 0 rA 5 5 none 0 0 W (h.p hb) gx_v
theorem aw21_cycle (h : GxAt b w1 nA nl nc rA) (hb : Below w1.heap.size w1 W) : Calls Tryz.prog 9 #[.agg #[.int .i64 5,.slice nA nl nc,.slice none 0 0,.slice rA 5 5,.slice none 0 0]] W fun e w' => ∃ A l c,e = .returned (.tuple #[.slice A l c,.int .i64 0]) ∧ SlIs intR w' A l c [5] ∧ Frs W.heap.size A l ∧ Below W.heap.size W w' :=
 gx_cycle ▸ cycle_any gxP nA nl nc none 0 0 rA 5 5 none 0 0 W (h.p hb) gx_v
theorem aw21_free (h : GxAt b w1 nA nl nc rA) (hb : Below w1.heap.size w1 W) : Calls Tryz.prog 10 #[.agg #[.int .i64 5,.slice nA nl nc,.slice none 0 0,.slice rA 5 5,.slice none 0 0]] W fun e w' => e = .returned (.tuple #[.bool false,.int .i64 0]) ∧ Below W.heap.size W w' :=
 gx_free ▸ free_any gxP nA nl nc none 0 0 rA 5 5 none 0 0 W (h.p hb) gx_v
theorem aw21_free4 (h : GxAt b w1 nA nl nc rA) (hb : Below w1.heap.size w1 W) : Calls Tryz.prog 10 #[.agg #[.int .i64 5,.slice nA nl nc,.slice none 0 0,.slice rA 4 5,.slice none 0 0]] W fun e w' => e = .returned (.tuple #[.bool true,.int .i64 0]) ∧ Below W.heap.size W w' :=
 gx_free4 ▸ free_any gx4 nA nl nc none 0 0 rA 4 5 none 0 0 W (h.p4 hb) gx_v4
theorem aw21_cycle3 (h : GxAt b w1 nA nl nc rA) (hb : Below w1.heap.size w1 W) : Calls Tryz.prog 9 #[.agg #[.int .i64 5,.slice nA nl nc,.slice none 0 0,.slice rA 3 5,.slice none 0 0]] W fun e w' => ∃ A l c,e = .returned (.tuple #[.slice A l c,.int .i64 0]) ∧ SlIs intR w' A l c [1,2] ∧ Frs W.heap.size A l ∧ Below W.heap.size W w' :=
 gx_cycle3 ▸ cycle_any gx3 nA nl nc none 0 0 rA 3 5 none 0 0 W (h.p3 hb) gx_v3
theorem aw21_number (h : GxAt b w1 nA nl nc rA) (hb : Below w1.heap.size w1 W) : Calls Tryz.prog 8 #[.agg #[.int .i64 (-1),.slice nA nl nc,.slice none 0 0,.slice rA 3 5,.slice none 0 0]] W fun e w' => e = .returned (.tuple #[.slice none 0 0,.int .i64 170]) ∧ Below W.heap.size W w' :=
 gx_vM ▸ number_err gxM nA nl nc none 0 0 rA 3 5 none 0 0 W (h.pM hb) (by rw [gx_vM]; decide)
end
set_option maxRecDepth 100000 in
set_option maxHeartbeats 8000000 in
theorem awake21_any (w : World) : Calls Tryz.prog 5 #[] w fun e w' => e = .returned (.bool true) ∧ Below w.heap.size w w' := by
 go_enter Tryz.func5,Tryz.ntmps5
 go_wp2_with fail
 go_fit (example21_any _); rintro e w1 ⟨nA,nl,nc,rA,rfl,hn,hr,hb1⟩
 obtain ⟨b,hb⟩ : ∃ b,w1.heap.size = b := ⟨_,rfl⟩
 have hg : GxAt b w1 nA nl nc rA := ⟨hb,hn,hr⟩
 clear hn hr
 have HG := Lib.hid hg; clear hg
 have HB1 := Lib.hid hb1; clear hb1
 go_wp2_with fail
 go_fit (aw21_edges HG.out (bel_alloc _ _)); rintro e w2 ⟨eA,el,ec,rfl,hE,fE,hb2⟩
 have hx2 := (blk_new hb 27 #[.int .i64 5,.slice nA nl nc,.slice none 0 0,.slice rA 5 5,.slice none 0 0]).bel hb2
 have hw2 := bel_trans (bel_alloc _ _) hb2
 have fE2 : Off [b] eA el := fE.off (fun k hk => by simp at hk; simp; omega)
 clear hb2 fE hb
 have HE := Lib.hid hE; clear hE
 have FE2 := Lib.hid fE2; clear fE2
 have HW2 := Lib.hid hw2; clear hw2
 have HX2 := Lib.hid hx2; clear hx2
 obtain ⟨p0,p1,p2,p3,p4,p5⟩ := pcells21 HX2.out
 go_wp2_with fail
 clear p0 p1 p2 p3 p4 p5
 go_fit (aw21_comps HG.out HW2.out); rintro e w3 ⟨cA,cl,cc,rfl,hC,fC,hb⟩
 have hbs := HX2.out.lt
 have fC2 : Off [b] cA cl := fC.off (fun k hk => by simp at hk; omega)
 have hC2 := hC.frm (B' := b + 1) (by omega)
 have kE := Kept.of_below hb [b]
 have hx3 := HX2.out.bel hb
 have hw3 := bel_trans HW2.out hb
 clear hb
 have HX3 := Lib.hid hx3; clear hx3
 have HW3 := Lib.hid hw3; clear hw3
 clear fC hC
 have FC2 := Lib.hid fC2; clear fC2
 have HC2 := Lib.hid hC2; clear hC2
 have KE := Lib.hid kE; clear kE
 obtain ⟨p0,p1,p2,p3,p4,p5⟩ := pcells21 HX3.out
 go_wp2_with fail
 clear p0 p1 p2 p3 p4 p5
 go_fit (aw21_tight HG.out HW3.out); rintro e w4 ⟨rfl,hb⟩
 have kE4 := KE.out.bel hb
 have kC4 := Kept.of_below hb [b]
 have hx4 := HX3.out.bel hb
 have hw4 := bel_trans HW3.out hb
 clear hb
 have HX4 := Lib.hid hx4; clear hx4
 have HW4 := Lib.hid hw4; clear hw4
 have KE4 := Lib.hid kE4; clear kE4
 have KC4 := Lib.hid kC4; clear kC4
 obtain ⟨p0,p1,p2,p3,p4,p5⟩ := pcells21 HX4.out
 go_wp2_with fail
 clear p0 p1 p2 p3 p4 p5
 go_fit (aw21_cycle HG.out HW4.out); rintro e w5 ⟨yA,yl,yc,rfl,hY,fY,hb⟩
 have hbs := HX4.out.lt
 have fY2 : Off [b] yA yl := fY.off (fun k hk => by simp at hk; omega)
 have kE5 := KE4.out.bel hb
 have kC5 := KC4.out.bel hb
 have hx5 := HX4.out.bel hb
 have hw5 := bel_trans HW4.out hb
 clear hb
 have HX5 := Lib.hid hx5; clear hx5
 have HW5 := Lib.hid hw5; clear hw5
 clear fY
 have HY := Lib.hid hY; clear hY
 have FY2 := Lib.hid fY2; clear fY2
 have KE5 := Lib.hid kE5; clear kE5
 have KC5 := Lib.hid kC5; clear kC5
 obtain ⟨p0,p1,p2,p3,p4,p5⟩ := pcells21 HX5.out
 go_wp2_with fail
 clear p0 p1 p2 p3 p4 p5
 go_fit (aw21_free HG.out HW5.out); rintro e w6 ⟨rfl,hb⟩
 have kE6 := KE5.out.bel hb
 have kC6 := KC5.out.bel hb
 have kY6 := Kept.of_below hb [b]
 have hx6 := HX5.out.bel hb
 have hw6 := bel_trans HW5.out hb
 clear hb
 have HX6 := Lib.hid hx6; clear hx6
 have HW6 := Lib.hid hw6; clear hw6
 have KE6 := Lib.hid kE6; clear kE6
 have KC6 := Lib.hid kC6; clear kC6
 have KY6 := Lib.hid kY6; clear kY6
 obtain ⟨p0,p1,p2,p3,p4,p5⟩ := pcells21 HX6.out
 have f3 := HX6.out.frozen 3
 go_wp2_with fail
 have hx7 : Blk (w6.setCell ⟨b,3,none⟩ (.slice rA 4 5)) b 27 #[.int .i64 5,.slice nA nl nc,.slice none 0 0,.slice rA 4 5,.slice none 0 0] := HX6.out.set_ 3 _
 have k := (Kept.refl [b] w6).set (p := ⟨b,3,none⟩) (.inl (by simp)) (.slice rA 4 5)
 have hw7 := Kept.below HW6.out k HW6.out.size (fun q hq => by
  have e : q = b := by simpa using hq
  have := HG.out.sz
  omega)
 have kE7 := KE6.out.trans k
 have kC7 := KC6.out.trans k
 have kY7 := KY6.out.trans k
 clear p0 p1 p2 p3 p4 p5 f3 k
 generalize w6.setCell ⟨b,3,none⟩ (.slice rA 4 5) = w7 at *
 have HX7 := Lib.hid hx7; clear hx7
 have HW7 := Lib.hid hw7; clear hw7
 have KE7 := Lib.hid kE7; clear kE7
 have KC7 := Lib.hid kC7; clear kC7
 have KY7 := Lib.hid kY7; clear kY7
 go_fit (aw21_free4 HG.out HW7.out); rintro e w8 ⟨rfl,hb⟩
 have kE8 := KE7.out.bel hb
 have kC8 := KC7.out.bel hb
 have kY8 := KY7.out.bel hb
 have hx8 := HX7.out.bel hb
 have hw8 := bel_trans HW7.out hb
 clear hb
 have HX8 := Lib.hid hx8; clear hx8
 have HW8 := Lib.hid hw8; clear hw8
 have KE8 := Lib.hid kE8; clear kE8
 have KC8 := Lib.hid kC8; clear kC8
 have KY8 := Lib.hid kY8; clear kY8
 obtain ⟨p0,p1,p2,p3,p4,p5⟩ := pcells21 HX8.out
 have f3 := HX8.out.frozen 3
 go_wp2_with fail
 have hx9 : Blk (w8.setCell ⟨b,3,none⟩ (.slice rA 3 5)) b 27 #[.int .i64 5,.slice nA nl nc,.slice none 0 0,.slice rA 3 5,.slice none 0 0] := HX8.out.set_ 3 _
 have k := (Kept.refl [b] w8).set (p := ⟨b,3,none⟩) (.inl (by simp)) (.slice rA 3 5)
 have hw9 := Kept.below HW8.out k HW8.out.size (fun q hq => by
  have e : q = b := by simpa using hq
  have := HG.out.sz
  omega)
 have kE9 := KE8.out.trans k
 have kC9 := KC8.out.trans k
 have kY9 := KY8.out.trans k
 clear p0 p1 p2 p3 p4 p5 f3 k
 generalize w8.setCell ⟨b,3,none⟩ (.slice rA 3 5) = w9 at *
 have HX9 := Lib.hid hx9; clear hx9
 have HW9 := Lib.hid hw9; clear hw9
 have KE9 := Lib.hid kE9; clear kE9
 have KC9 := Lib.hid kC9; clear kC9
 have KY9 := Lib.hid kY9; clear kY9
 go_fit (aw21_cycle3 HG.out HW9.out); rintro e w10 ⟨zA,zl,zc,rfl,hZ,fZ,hb⟩
 have hbs := HX9.out.lt
 have fZ2 : Off [b] zA zl := fZ.off (fun k hk => by simp at hk; omega)
 clear fZ
 have HZ := Lib.hid hZ; clear hZ
 have FZ2 := Lib.hid fZ2; clear fZ2
 have kE10 := KE9.out.bel hb
 have kC10 := KC9.out.bel hb
 have kY10 := KY9.out.bel hb
 have hx10 := HX9.out.bel hb
 have hw10 := bel_trans HW9.out hb
 clear hb
 have HX10 := Lib.hid hx10; clear hx10
 have HW10 := Lib.hid hw10; clear hw10
 have KE10 := Lib.hid kE10; clear kE10
 have KC10 := Lib.hid kC10; clear kC10
 have KY10 := Lib.hid kY10; clear kY10
 have kZ10 := Kept.refl [b] w10
 have KZ10 := Lib.hid kZ10; clear kZ10
 obtain ⟨p0,p1,p2,p3,p4,p5⟩ := pcells21 HX10.out
 have f0 := HX10.out.frozen 0
 go_wp2_with fail
 have hx11 : Blk (w10.setCell ⟨b,0,none⟩ (.int .i64 (-1))) b 27 #[.int .i64 (-1),.slice nA nl nc,.slice none 0 0,.slice rA 3 5,.slice none 0 0] := HX10.out.set_ 0 _
 have k := (Kept.refl [b] w10).set (p := ⟨b,0,none⟩) (.inl (by simp)) (.int .i64 (-1))
 have hw11 := Kept.below HW10.out k HW10.out.size (fun q hq => by
  have e : q = b := by simpa using hq
  have := HG.out.sz
  omega)
 have kE11 := KE10.out.trans k
 have kC11 := KC10.out.trans k
 have kY11 := KY10.out.trans k
 have kZ11 := KZ10.out.trans k
 clear p0 p1 p2 p3 p4 p5 f0 k
 generalize w10.setCell ⟨b,0,none⟩ (.int .i64 (-1)) = w11 at *
 have HX11 := Lib.hid hx11; clear hx11
 have HW11 := Lib.hid hw11; clear hw11
 have KE11 := Lib.hid kE11; clear kE11
 have KC11 := Lib.hid kC11; clear kC11
 have KY11 := Lib.hid kY11; clear kY11
 have KZ11 := Lib.hid kZ11; clear kZ11
 go_fit (aw21_number HG.out HW11.out); rintro e w12 ⟨rfl,hb⟩
 have kE12 := KE11.out.bel hb
 have kC12 := KC11.out.bel hb
 have kY12 := KY11.out.bel hb
 have kZ12 := KZ11.out.bel hb
 have hx12 := HX11.out.bel hb
 have hw12 := bel_trans HW11.out hb
 clear hb
 have HX12 := Lib.hid hx12; clear hx12
 have HW12 := Lib.hid hw12; clear hw12
 have KE12 := Lib.hid kE12; clear kE12
 have KC12 := Lib.hid kC12; clear kC12
 have KY12 := Lib.hid kY12; clear kY12
 have KZ12 := Lib.hid kZ12; clear kZ12
 have hE2 := HE.out.keptR KE12.out FE2.out (fun _ _ _ h => h)
 have hC3 := (HC2.out.keptF KC12.out FC2.out (by simp)).unfr
 have hY2 := HY.out.keptM KY12.out FY2.out
 have hZ2 := HZ.out.keptM KZ12.out FZ2.out
 have HE2 := Lib.hid hE2; clear hE2
 have HC3 := Lib.hid hC3; clear hC3
 have HY2 := Lib.hid hY2; clear hY2
 have HZ2 := Lib.hid hZ2; clear hZ2
 go_wp2_with fail
 go_fit (edges21_any _ _ _ _ _ _ gxEL gxEL _ (HE2.out.ext (bel_alloc _ _)) (gxE_sl (blk_new rfl _ _))); rintro e w13 ⟨rfl,hb⟩
 rw [show decide (gxEL = gxEL) = true from by simp]
 have hb' := bel_trans (bel_alloc _ _) hb
 have hC4 := HC3.out.ext hb'
 have hY3 := HY2.out.ext hb'
 have hZ3 := HZ2.out.ext hb'
 have hw13 := bel_trans HW12.out hb'
 clear hb hb'
 have HC4 := Lib.hid hC4; clear hC4
 have HY3 := Lib.hid hY3; clear hY3
 have HZ3 := Lib.hid hZ3; clear hZ3
 have HW13 := Lib.hid hw13; clear hw13
 go_wp2_with fail
 change Calls _ _ _ (allocs w13 (gxCO w13.heap.size)) _
 go_fit (lists21_any _ _ _ _ _ _ gxCL gxCL _ (HC4.out.ext (allocs_bel _ _)) (gxC_sl w13)); rintro e w14 ⟨rfl,hb⟩
 rw [show decide (gxCL = gxCL) = true from by simp]
 have hb' := bel_trans (allocs_bel _ _) hb
 have hY4 := HY3.out.ext hb'
 have hZ4 := HZ3.out.ext hb'
 have hw14 := bel_trans HW13.out hb'
 clear hb hb'
 have HY4 := Lib.hid hY4; clear hY4
 have HZ4 := Lib.hid hZ4; clear hZ4
 have HW14 := Lib.hid hw14; clear hw14
 go_wp2_with fail
 go_fit (lawInts_any _ _ _ _ _ _ [5] [5] _ (HY4.out.ext (bel_alloc _ _)) (sl_ints [5] (blk_new rfl _ _) rfl (by omega) (by simp [I64]))); rintro e w15 ⟨rfl,hb⟩
 rw [show decide (([5] : List Int) = [5]) = true from rfl]
 have hb' := bel_trans (bel_alloc _ _) hb
 have hZ5 := HZ4.out.ext hb'
 have hw15 := bel_trans HW14.out hb'
 clear hb hb'
 have HZ5 := Lib.hid hZ5; clear hZ5
 have HW15 := Lib.hid hw15; clear hw15
 go_wp2_with fail
 go_fit (lawInts_any _ _ _ _ _ _ [1,2] [1,2] _ (HZ5.out.ext (bel_alloc _ _)) (sl_ints [1,2] (blk_new rfl _ _) rfl (by omega) (by simp [I64]))); rintro e w16 ⟨rfl,hb⟩
 rw [show decide (([1,2] : List Int) = [1,2]) = true from rfl]
 have hw16 := bel_trans HW15.out (bel_trans (bel_alloc _ _) hb)
 clear hb
 have hwZ := bel_trans HB1.out hw16
 have HWZ := Lib.hid hwZ; clear hwZ
 have HW16 := Lib.hid hw16; clear hw16
 go_wp2_with fail
 go_ret
 exact ⟨rfl,HWZ.out⟩
end Go.Proofs.YtbfbkpoakmnlpaaGreat

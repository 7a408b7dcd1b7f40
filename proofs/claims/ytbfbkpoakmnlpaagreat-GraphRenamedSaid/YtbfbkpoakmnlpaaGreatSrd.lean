/- Contract: graph.sorted. -/
import Derived.Test.YtbfbkpoakmnlpaaGreatSra
namespace Go.Proofs.YtbfbkpoakmnlpaaGreat
open Go.RowKit
def RowAt (w3 : World) (n : Nat) (w' : World) (u : Value) : Prop := ∃ q,u = .slice (some ⟨q,0,none⟩) n n ∧ w3.heap.size ≤ q ∧ Blk w' q 23 (valCells n fun _ => .slice none 0 0)
theorem RowAt.bel {w3 w' v : World} {n : Nat} {u : Value} (h : RowAt w3 n w' u) (hb : Below w'.heap.size w' v) : RowAt w3 n v u := by
 obtain ⟨q,e,h1,h2⟩ := h; exact ⟨q,e,h1,h2.bel hb⟩
theorem RowAt.new {w3 w' : World} {n : Nat} (h : w3.heap.size ≤ w'.heap.size) : RowAt w3 n (w'.alloc (.cells (valCells n fun _ => .slice none 0 0) 23)) (.slice (some ⟨w'.heap.size,0,none⟩) n n) := ⟨_,rfl,h,blk_new rfl _ _⟩
set_option maxRecDepth 100000 in
set_option maxHeartbeats 40000000 in
theorem sorted_fr (Fb : Nat) (gA : Option Addr) (N gc : Nat) (cA : Option Addr) (cl cc : Nat) (g cs : List (List Int)) (w : World) (hg : GOk g) (hs : SlIs (slR intR) w gA (N + 1) gc g) (hc : SlIs (frR Fb) w cA cl cc cs) (hok : CompOk g cs) :
  Calls Tryz.prog 35 #[.slice gA (N + 1) gc,.slice cA cl cc] w fun e w' => ∃ A l c,e = .returned (.slice A l c) ∧ SlIs (frR Fb) w' A l c (sortT g cs) ∧ Frs w.heap.size A l ∧ Below w.heap.size w w' := by
 have hlc := hs.cap
 have hlm := hs.max
 have hlen := hs.len
 have hcc := hc.cap
 have hcm := hc.max
 have hclen := hc.len
 have hn4 : N ≤ 4000 := by have := hg.len; omega
 have hcl : cl ≤ N + 1 := by have := comp_len hok; omega
 have hmk : ∀ W : World,(Instr.makeSlice 23 (.int .i64 (cl : Int)) (.int .i64 (cl : Int))).run Tryz.prog W = .ok (.slice (some ⟨W.heap.size,0,none⟩) cl cl) (W.alloc (.cells (intC (List.replicate cl 0)) 3)) := fun W => by
  have h := run_make_row' (P := Tryz.prog) 23 3 (.int .i64 0) 8 Tryz.underlying23 info_int rfl .i64 .i64 cl (by omega) (by omega) W
  have e : madeCells #[Value.int .i64 0] cl = intC (List.replicate cl 0) := by
   unfold madeCells intC
   apply Array.ext
   ·simp
   ·intro i h1 h2
    simp [Nat.mod_one]
  rwa [e] at h
 have hmr := fun W : World => make_intss cl (by omega) W
 have hb0 := bel_alloc w (.cells #[.slice cA cl cc] 44)
 have hx0 : Blk (w.alloc (.cells #[.slice cA cl cc] 44)) w.heap.size 44 #[.slice cA cl cc] := blk_new rfl _ _
 have hnum := numbers_any N cA cl cc cs (w.alloc (.cells #[.slice cA cl cc] 44)) hn4 (hc.unfr.ext hb0) (fun c h a ha => by have := hok.rng c h a ha; omega)
 have hne : ∀ c ∈ cs,c ≠ [] := fun c h => (hok.inc c h).1
 have HS := Lib.hid hs; clear hs
 have HLEN := Lib.hid hlen; clear hlen
 have HG := Lib.hid hg; clear hg
 have HC := Lib.hid hc; clear hc
 have HCLEN := Lib.hid hclen; clear hclen
 have HOK := Lib.hid hok; clear hok
 have HNUM := Lib.hid hnum; clear hnum
 have HB0 := Lib.hid hb0; clear hb0
 have HX0 := Lib.hid hx0; clear hx0
 have HNE := Lib.hid hne; clear hne
 go_enter Tryz.func35,Tryz.ntmps35
 go_wp2_with fail
 go_fit HNUM.out; rintro e w3 ⟨ub,rfl,hub,hubl,hb3⟩
 have hx3 := HX0.out.bel hb3
 have hbw3 := bel_trans HB0.out hb3
 have hz3 := hb3.size
 have hu3 := hub.lt
 simp only [World.size_alloc] at hubl hz3
 obtain ⟨AT,hAT⟩ : ∃ AT,AT = numL N cs := ⟨_,rfl⟩
 rw [← hAT] at hub
 have hATl : AT.length = N + 1 := by rw [hAT,numL_len]
 have HUB := Lib.hid hub; clear hub
 have HB3 := Lib.hid hb3; clear hb3
 have HX3 := Lib.hid hx3; clear hx3
 have HBW3 := Lib.hid hbw3; clear hbw3
 have HAT := Lib.hid hAT; clear hAT
 have HATL := Lib.hid hATl; clear hATl
 go_upto_region 2 with fail
 refine wp_region_inv (fun listed a' w' => ∃ (b0 b1 b2 b3 b4 b5 b6 b7 : Bool) (u6 u7 u26 u27 u28 u29 u30 u31 : Value),listed = #[b0,b1,b2,b3,b4,b5,b6,b7] ∧ a' = { tmps := #[.slice gA (N + 1) gc,.slice cA cl cc,undef,.pointer (some ⟨w.heap.size,0,none⟩),.slice none 0 0,.slice (some ⟨ub,0,none⟩) (N + 1) (N + 1),u6,u7,undef,undef,undef,undef,undef,undef,undef,undef,undef,undef,undef,undef,undef,.slice gA (N + 1) gc,.int .i64 ((N : Int) + 1),.int .i64 (N : Int),.slice cA cl cc,.slice (some ⟨ub,0,none⟩) (N + 1) (N + 1),u26,u27,u28,u29,u30,u31,undef,undef,undef,undef,undef,undef,undef,undef,undef,undef,undef,undef,undef,undef,undef,undef,undef,undef,undef,undef,undef,undef,undef,undef,undef,undef,undef,undef,undef,undef,undef,undef,undef,undef,undef,undef,undef,undef,undef,undef,undef,undef,undef,undef,undef,undef,undef,undef,undef,undef,undef,undef,undef,undef,undef,undef,undef,undef,undef,undef,undef,undef,undef,undef,undef,undef,undef,undef,undef,undef,undef,undef,undef,undef,undef,undef,undef,undef,undef,undef,undef,undef,undef,undef,undef,undef,undef,undef,undef,undef,undef,undef,undef,undef,undef,undef,undef,undef,undef,undef,undef,undef,undef,undef,undef,undef,undef,undef,undef,undef,undef,undef,undef,undef,undef,undef,undef,undef,undef],defers := [] } ∧ (Below w3.heap.size w3 w') ∧ (Blk w' w.heap.size 44 #[.slice cA cl cc]) ∧ (b0 = true → u26 = .slice cA cl cc) ∧ (b1 = true → u27 = .int .i64 (cl : Int)) ∧ (b3 = true → u29 = .slice cA cl cc) ∧ (b4 = true → u30 = .int .i64 (cl : Int)) ∧ (b2 = true → ArrAt w3 cl w' u28) ∧ (b5 = true → RowAt w3 cl w' u31) ∧ (b6 = true → u6 = u28) ∧ (b7 = true → u7 = u31) ∧ (b6 = true → b2 = true) ∧ (b7 = true → b5 = true)) (by kernel_rfl) ?start ?step ?_
 case start => exact ⟨false,false,false,false,false,false,false,false,_,_,_,_,_,_,_,_,rfl,rfl,(Below.refl _ _).drew,HX3.out.drew,(by simp),(by simp),(by simp),(by simp),(by simp),(by simp),(by simp),(by simp),(by simp),(by simp)⟩
 case step =>
  rintro listed a' w' i o ⟨b0,b1,b2,b3,b4,b5,b6,b7,u6,u7,u26,u27,u28,u29,u30,u31,rfl,rfl,hB,hC,f0,f1,f3,f4,m1,m2,f6,f7,c6,c7⟩ ho hli hd K hK
  match i,ho,hli,hd with
  | 0,ho,hli,hd =>
   obtain rfl := Option.some.inj ho
   obtain rfl : b0 = false := hli
   have hm : w'.cell? ⟨w.heap.size,0,none⟩ = some (.slice cA cl cc) := hC.cell 0
   have HH := Lib.hid (And.intro c6 c7)
   clear c6 c7
   go_simp
   exact hK _ _ ⟨_,_,_,_,_,_,_,_,_,_,_,_,_,_,_,_,rfl,rfl,hB,hC,(fun _ => rfl),f1,f3,f4,m1,m2,f6,f7,HH.out.1,HH.out.2⟩
  | 1,ho,hli,hd =>
   obtain rfl := Option.some.inj ho
   obtain rfl : b1 = false := hli
   obtain rfl : b0 = true := hd ⟨0,.data⟩ (by simp) rfl
   obtain rfl := f0 rfl
   have HH := Lib.hid (And.intro c6 c7)
   clear c6 c7
   go_simp
   exact hK _ _ ⟨_,_,_,_,_,_,_,_,_,_,_,_,_,_,_,_,rfl,rfl,hB,hC,f0,(fun _ => rfl),f3,f4,m1,m2,f6,f7,HH.out.1,HH.out.2⟩
  | 2,ho,hli,hd =>
   obtain rfl := Option.some.inj ho
   obtain rfl : b2 = false := hli
   obtain rfl : b1 = true := hd ⟨1,.data⟩ (by simp) rfl
   have e6 : b6 = false := by
    cases hh : b6 with
    | false => rfl
    | true => have := (c6 hh); cases this
   subst e6
   obtain rfl := f1 rfl
   have hb := bel_alloc w' (.cells (intC (List.replicate cl 0)) 3)
   have hS : w3.heap.size ≤ w'.heap.size := hB.size
   have HH := Lib.hid (And.intro c6 c7)
   clear c6 c7
   go_simp
   exact hK _ _ ⟨_,_,_,_,_,_,_,_,_,_,_,_,_,_,_,_,rfl,rfl,(bel_trans hB hb),(hC.bel hb),f0,f1,f3,f4,(fun _ => ArrAt.new hS),(fun e => (m2 e).bel hb),(fun e => by cases e),f7,(fun e => by cases e),HH.out.2⟩
  | 3,ho,hli,hd =>
   obtain rfl := Option.some.inj ho
   obtain rfl : b3 = false := hli
   have hm : w'.cell? ⟨w.heap.size,0,none⟩ = some (.slice cA cl cc) := hC.cell 0
   have HH := Lib.hid (And.intro c6 c7)
   clear c6 c7
   go_simp
   exact hK _ _ ⟨_,_,_,_,_,_,_,_,_,_,_,_,_,_,_,_,rfl,rfl,hB,hC,f0,f1,(fun _ => rfl),f4,m1,m2,f6,f7,HH.out.1,HH.out.2⟩
  | 4,ho,hli,hd =>
   obtain rfl := Option.some.inj ho
   obtain rfl : b4 = false := hli
   obtain rfl : b3 = true := hd ⟨3,.data⟩ (by simp) rfl
   obtain rfl := f3 rfl
   have HH := Lib.hid (And.intro c6 c7)
   clear c6 c7
   go_simp
   exact hK _ _ ⟨_,_,_,_,_,_,_,_,_,_,_,_,_,_,_,_,rfl,rfl,hB,hC,f0,f1,f3,(fun _ => rfl),m1,m2,f6,f7,HH.out.1,HH.out.2⟩
  | 5,ho,hli,hd =>
   obtain rfl := Option.some.inj ho
   obtain rfl : b5 = false := hli
   obtain rfl : b4 = true := hd ⟨4,.data⟩ (by simp) rfl
   have e7 : b7 = false := by
    cases hh : b7 with
    | false => rfl
    | true => have := (c7 hh); cases this
   subst e7
   obtain rfl := f4 rfl
   have hb := bel_alloc w' (.cells (valCells cl fun _ => .slice none 0 0) 23)
   have hS : w3.heap.size ≤ w'.heap.size := hB.size
   have HH := Lib.hid (And.intro c6 c7)
   clear c6 c7
   go_simp
   exact hK _ _ ⟨_,_,_,_,_,_,_,_,_,_,_,_,_,_,_,_,rfl,rfl,(bel_trans hB hb),(hC.bel hb),f0,f1,f3,f4,(fun e => (m1 e).bel hb),(fun _ => RowAt.new hS),f6,(fun e => by cases e),HH.out.1,(fun e => by cases e)⟩
  | 6,ho,hli,hd =>
   obtain rfl := Option.some.inj ho
   obtain rfl : b6 = false := hli
   obtain rfl : b2 = true := hd ⟨2,.data⟩ (by simp) rfl
   have HH := Lib.hid (And.intro c6 c7)
   clear c6 c7
   go_simp
   exact hK _ _ ⟨_,_,_,_,_,_,_,_,_,_,_,_,_,_,_,_,rfl,rfl,hB,hC,f0,f1,f3,f4,m1,m2,(fun _ => rfl),f7,(fun _ => rfl),HH.out.2⟩
  | 7,ho,hli,hd =>
   obtain rfl := Option.some.inj ho
   obtain rfl : b7 = false := hli
   obtain rfl : b5 = true := hd ⟨5,.data⟩ (by simp) rfl
   have HH := Lib.hid (And.intro c6 c7)
   clear c6 c7
   go_simp
   exact hK _ _ ⟨_,_,_,_,_,_,_,_,_,_,_,_,_,_,_,_,rfl,rfl,hB,hC,f0,f1,f3,f4,m1,m2,f6,(fun _ => rfl),HH.out.1,(fun _ => rfl)⟩
  | i + 8,ho,hli,hd => simp at ho
 rintro listed a' w' ⟨b0,b1,b2,b3,b4,b5,b6,b7,u6,u7,u26,u27,u28,u29,u30,u31,rfl,rfl,hB,hC,f0,f1,f3,f4,m1,m2,f6,f7,c6,c7⟩ hr
 obtain rfl : b0 = true := ready_nil hr (i := 0) rfl (by first | (simp; done) | (simp; intro q; exact absurd q (by decide)))
 obtain rfl : b1 = true := ready_nil hr (i := 1) rfl (by first | (simp; done) | (simp; intro q; exact absurd q (by decide)))
 obtain rfl : b2 = true := ready_nil hr (i := 2) rfl (by first | (simp; done) | (simp; intro q; exact absurd q (by decide)))
 obtain rfl : b3 = true := ready_nil hr (i := 3) rfl (by first | (simp; done) | (simp; intro q; exact absurd q (by decide)))
 obtain rfl : b4 = true := ready_nil hr (i := 4) rfl (by first | (simp; done) | (simp; intro q; exact absurd q (by decide)))
 obtain rfl : b5 = true := ready_nil hr (i := 5) rfl (by first | (simp; done) | (simp; intro q; exact absurd q (by decide)))
 obtain rfl : b6 = true := ready_nil hr (i := 6) rfl (by first | (simp; done) | (simp; intro q; exact absurd q (by decide)))
 obtain rfl : b7 = true := ready_nil hr (i := 7) rfl (by first | (simp; done) | (simp; intro q; exact absurd q (by decide)))
 clear hr
 obtain ⟨nb,rfl,hnb,hbn⟩ := m1 rfl
 obtain ⟨wb,rfl,hwb,hbw⟩ := m2 rfl
 obtain rfl := f6 rfl
 obtain rfl := f7 rfl
 have hnw : nb ≠ wb := fun e => by
  subst e
  have := hbn.symm.trans hbw
  simp at this
 have hbl := hB.size
 have hn1 := hbn.lt
 have hw1 := hbw.lt
 have hS0 : SrS w cA cl cc w.heap.size ub nb wb w'.heap.size AT w' (needL (edK g AT 0) cl) (waitU (edK g AT 0)) (fun _ => .slice none 0 0) (fun _ => 0) := by
  have e1 : needL (edK g AT 0) cl = List.replicate cl 0 := needL_nil cl
  have e2 : waitU (edK g AT 0) = fun _ => [] := rfl
  rw [e1,e2]
  exact ⟨hC,HUB.out.bel hB,hbn,GrowI.new hbw,bel_trans HBW3.out hB,Nat.le_refl _,⟨Nat.le_refl _,by omega⟩,⟨by omega,by omega⟩,⟨hn1,hw1⟩,hnw⟩
 clear f0 f1 f3 f4 f6 f7 c6 c7 m1 m2 hC
 obtain ⟨B,hBe⟩ : ∃ B,B = w'.heap.size := ⟨_,rfl⟩
 rw [← hBe] at hS0
 clear hmk hmr hnb hwb hnw hbl hn1 hw1
 have HB := Lib.hid hB; clear hB
 have HBN := Lib.hid hbn; clear hbn
 have HBW := Lib.hid hbw; clear hbw
 have HS0 := Lib.hid hS0; clear hS0
 have HBE := Lib.hid hBe; clear hBe
 go_wp2_with fail
 go_loopw [8] (fun t wr => ∃ (k : Nat) (us : Nat → Value) (ls : Nat → Nat),k ≤ N ∧ t = .int .i64 ((k : Int) + 1) ∧ SrS w cA cl cc w.heap.size ub nb wb B AT wr (needL (edK g AT k) cl) (waitU (edK g AT k)) us ls) (fun t _ => N + 1 - (intOf t).toNat)
 case atStart => exact ⟨0,_,_,Nat.zero_le _,rfl,HS0.out⟩
 case round =>
  obtain ⟨k,us,ls,hk,rfl,ho⟩ := hrel
  obtain ⟨wo,rfl⟩ : ∃ wo : World,wo = wr := ⟨_,rfl⟩
  by_cases hlt : k < N
  ·skip
   have hrow := row_at g (k + 1) (by have := HLEN.out; omega)
   rw [show ((k + 1 : Nat) : Int) = (k : Int) + 1 by omega] at hrow
   obtain ⟨rb,ro,rA,rl,rc,rfl,lr0,cr0,hr⟩ := HS.out.set hrow
   have crx := (ho.bel.cell (World.block_lt_of_cell? _ _ cr0)).trans cr0
   have k0 : (0 : Int) ≤ (k : Int) + 1 := by omega
   have k1 : (k : Int) + 1 < (N : Int) + 1 := by omega
   have hrc := hr.cap
   have hrm := hr.max
   have hrl := hr.len
   obtain ⟨x0,x1⟩ := num_rng HOK.out (by have := HLEN.out; omega) (x := (k : Int) + 1) (by omega) (by have := HLEN.out; omega)
   rw [show g.length - 1 = N by have := HLEN.out; omega,← HAT.out] at x0 x1
   obtain ⟨x,hx⟩ : ∃ x : Nat,nthZ AT ((k : Int) + 1) = (x : Int) := ⟨(nthZ AT ((k : Int) + 1)).toNat,by omega⟩
   rw [hx] at x0 x1
   have hxcl : x < cl := by have := HCLEN.out; omega
   rw [← edJ_zero] at ho
   clear cr0
   have HROW := Lib.hid hrow; clear hrow
   have HR := Lib.hid hr; clear hr
   have HRL := Lib.hid hrl; clear hrl
   have HO := Lib.hid ho; clear ho
   have HX := Lib.hid hx; clear hx
   go_wp2_with fail
   clear crx
   go_loopw [43] (fun t wr => ∃ (j : Nat) (us : Nat → Value) (ls : Nat → Nat),j ≤ rl ∧ t = .int .i64 (j : Int) ∧ SrS w cA cl cc w.heap.size ub nb wb B AT wr (needL (edJ g AT k j) cl) (waitU (edJ g AT k j)) us ls) (fun t _ => rl - (intOf t).toNat)
   case atStart => exact ⟨0,_,_,Nat.zero_le _,rfl,HO.out⟩
   case round =>
    obtain ⟨j,us,ls,hj,rfl,ho⟩ := hrel
    obtain ⟨wi,rfl⟩ : ∃ wi : World,wi = wr := ⟨_,rfl⟩
    by_cases hjl : j < rl
    ·obtain ⟨b,hbj,-⟩ := HR.out.drop hjl
     obtain ⟨eb,eo,rfl,le,ce,b64⟩ := (HR.out.ext ho.bel).int hbj
     have hbr := HG.out.ent _ b (List.mem_of_getElem? hbj)
     obtain ⟨bn,rfl⟩ : ∃ bn : Nat,b = (bn : Int) := ⟨b.toNat,by omega⟩
     have hbn2 : bn < N + 1 := by have := HLEN.out; omega
     obtain ⟨y0,y1⟩ := num_rng HOK.out (by have := HLEN.out; omega) (x := (bn : Int)) (by omega) (by omega)
     rw [show g.length - 1 = N by have := HLEN.out; omega,← HAT.out] at y0 y1
     obtain ⟨y,hy⟩ : ∃ y : Nat,nthZ AT (bn : Int) = (y : Int) := ⟨(nthZ AT (bn : Int)).toNat,by omega⟩
     rw [hy] at y0 y1
     have hycl : y < cl := by have := HCLEN.out; omega
     have hstep := edJ_step (at_ := AT) hbj
     rw [HX.out,hy] at hstep
     have j0 : (0 : Int) ≤ (j : Int) := by omega
     have j1 : (j : Int) < (rl : Int) := by omega
     have q0 : (0 : Int) ≤ (bn : Int) := by omega
     have q1 : (bn : Int) < (N : Int) + 1 := by omega
     have hca : (intC AT)[k + 1]? = some (.int .i64 (x : Int)) := by rw [intC_at HATL.out (by omega),show ((k + 1 : Nat) : Int) = (k : Int) + 1 by omega,HX.out]
     have hcb : (intC AT)[bn]? = some (.int .i64 (y : Int)) := by rw [intC_at HATL.out (by omega),hy]
     have m1 : wi.cell? ⟨ub,k + 1,none⟩ = some (.int .i64 (x : Int)) := by rw [ho.ba.cell,hca]
     have m2 : wi.cell? ⟨ub,bn,none⟩ = some (.int .i64 (y : Int)) := by rw [ho.ba.cell,hcb]
     by_cases hxy : x = y
     ·subst hxy
      rw [if_pos rfl] at hstep
      have z1 : ((x : Int) != (x : Int)) = false := by simp
      have HBJ := Lib.hid hbj; clear hbj
      have HBR := Lib.hid hbr; clear hbr
      have HY := Lib.hid hy; clear hy
      have HSTEP := Lib.hid hstep; clear hstep
      have HO := Lib.hid ho; clear ho
      have HCA := Lib.hid hca; clear hca
      have HCB := Lib.hid hcb; clear hcb
      have B64 := Lib.hid b64; clear b64
      go_wp2_with fail
      refine wp_region_later [(⟨ub,k + 1,none⟩,.int .i64 (x : Int)),(⟨ub,bn,none⟩,.int .i64 (x : Int))] (by kernel_rfl) (by kernel_rfl) (by simp [go_sem, *]) ?_
      intro hk; simp only [List.forall_mem_cons] at hk; obtain ⟨k9_0,k9_1,kz⟩ := hk; clear kz
      repeat go_big_quiet_step (fail)
      refine wpQuiet_nil ?_
      rintro w2 ⟨u9,rfl⟩
      have HU9 := Lib.hid u9.h
      clear k9_0 k9_1
      have ho9 := HO.out.ext HU9.out
      rw [← HSTEP.out] at ho9
      clear m1 m2 ce HU9
      generalize u9.w = w6 at *
      have HO9 := Lib.hid ho9; clear ho9
      go_wp2_with fail
      go_roundw
      case rel => exact ⟨j + 1,_,_,by omega,by go_num,HO9.out⟩
      case measure => simp [intOf]; omega
     ·rw [if_neg (by omega)] at hstep
      have z1 : ((x : Int) != (y : Int)) = true := by simp; omega
      have HBJ := Lib.hid hbj; clear hbj
      have HBR := Lib.hid hbr; clear hbr
      have HY := Lib.hid hy; clear hy
      have HSTEP := Lib.hid hstep; clear hstep
      have HO := Lib.hid ho; clear ho
      have HCA := Lib.hid hca; clear hca
      have HCB := Lib.hid hcb; clear hcb
      have B64 := Lib.hid b64; clear b64
      go_wp2_with fail
      refine wp_region_later [(⟨ub,k + 1,none⟩,.int .i64 (x : Int)),(⟨ub,bn,none⟩,.int .i64 (y : Int))] (by kernel_rfl) (by kernel_rfl) (by simp [go_sem, *]) ?_
      intro hk; simp only [List.forall_mem_cons] at hk; obtain ⟨k9_0,k9_1,kz⟩ := hk; clear kz
      repeat go_big_quiet_step (fail)
      refine wpQuiet_nil ?_
      rintro w2 ⟨u9,rfl⟩
      have HU9 := Lib.hid u9.h
      clear k9_0 k9_1
      have ho9 := HO.out.ext HU9.out
      clear m1 m2 ce HU9
      generalize u9.w = w6 at *
      obtain ⟨v,hv⟩ : ∃ v,v = nthZ (needL (edJ g AT k j) cl) (x : Int) := ⟨_,rfl⟩
      have hvb : 0 ≤ v ∧ v ≤ 20000000 := by
       rw [hv,needL_at _ hxcl]
       have h1 := needN_le (edJ g AT k j) [] (x : Int)
       have h2 := edJ_len HG.out AT (k := k) (by omega) j
       omega
      obtain ⟨hv0,hv1⟩ := hvb
      have p0 : (0 : Int) ≤ (x : Int) := by omega
      have p1 : (x : Int) < (cl : Int) := by omega
      have p2 : (0 : Int) ≤ (y : Int) := by omega
      have p3 : (y : Int) < (cl : Int) := by omega
      have m4 : w6.cell? ⟨ub,k + 1,none⟩ = some (.int .i64 (x : Int)) := by rw [ho9.ba.cell]; exact HCA.out
      have m3 : w6.cell? ⟨nb,x,none⟩ = some (.int .i64 v) := by rw [ho9.bn.cell,intC_at (needL_len _ _) hxcl,hv]
      have f3 := ho9.bn.frozen x
      have hoA := ho9.setN x (v + 1)
      rw [hv,← needL_snoc (edJ g AT k j) hxcl (y : Int)] at hoA
      rw [← hv] at hoA
      have HO9 := Lib.hid ho9; clear ho9
      have HV := Lib.hid hv; clear hv
      have HOA := Lib.hid hoA; clear hoA
      go_upto_region 11 with fail
      clear m3 f3 m4
      generalize w6.setCell ⟨nb,x,none⟩ (.int .i64 (v + 1)) = w4 at *
      obtain ⟨ND,hND⟩ : ∃ ND,ND = needL (edJ g AT k j ++ [((x : Int),(y : Int))]) cl := ⟨_,rfl⟩
      obtain ⟨U0,hU0⟩ : ∃ U0,U0 = waitU (edJ g AT k j) := ⟨_,rfl⟩
      have ho4 := HOA.out
      rw [← hND,← hU0] at ho4
      have hua := ho4.ba
      have x64 : I64 (x : Int) := by unfold I64; omega
      have hlb : (U0 y).length ≤ 20000000 := by
       rw [hU0]
       exact Nat.le_trans (wait_len _ _) (edJ_len HG.out AT (by omega) j)
      clear HOA
      have HND := Lib.hid hND; clear hND
      have HU0 := Lib.hid hU0; clear hU0
      have HO4 := Lib.hid ho4; clear ho4
      have HUA := Lib.hid hua; clear hua
      have X64 := Lib.hid x64; clear x64
      have HLB := Lib.hid hlb; clear hlb
      refine wp_region_inv (fun listed a' w' => ∃ (b0 b1 b2 b3 b4 b5 b6 b7 b8 b9 b10 b11 b12 b13 b14 b15 b16 b17 b18 b19 : Bool) (u65 u66 u67 u68 u69 u70 u71 u72 u73 u74 u75 u76 u77 u78 u79 u80 u81 u82 u83 : Value),listed = #[b0,b1,b2,b3,b4,b5,b6,b7,b8,b9,b10,b11,b12,b13,b14,b15,b16,b17,b18,b19] ∧ a' = { tmps := #[.slice (some ⟨rb,ro,none⟩) (N + 1) gc,.slice cA cl cc,undef,.pointer (some ⟨w.heap.size,0,none⟩),.slice none 0 0,.slice (some ⟨ub,0,none⟩) (N + 1) (N + 1),.slice (some ⟨nb,0,none⟩) cl cl,.slice (some ⟨wb,0,none⟩) cl cl,.int .i64 ((k : Int) + 1),undef,.int .i64 (bn : Int),undef,undef,undef,undef,undef,undef,undef,undef,undef,undef,.slice (some ⟨rb,ro,none⟩) (N + 1) gc,.int .i64 ((N : Int) + 1),.int .i64 (N : Int),.slice cA cl cc,.slice (some ⟨ub,0,none⟩) (N + 1) (N + 1),u26,u27,.slice (some ⟨nb,0,none⟩) cl cl,u29,u30,.slice (some ⟨wb,0,none⟩) cl cl,.int .i64 ((k : Int) + 1),.slice (some ⟨rb,ro,none⟩) (N + 1) gc,.int .i64 ((N : Int) + 1),.bool true,u36,u37,.slice (some ⟨rb,ro,none⟩) (N + 1) gc,.int .i64 ((k : Int) + 1),.pointer (some ⟨rb,ro + (k + 1),none⟩),.slice (some ⟨eb,eo,none⟩) rl rc,.int .i64 (rl : Int),.int .i64 (j : Int),.bool true,.pointer (some ⟨eb,eo + j,none⟩),.int .i64 (bn : Int),.slice (some ⟨ub,0,none⟩) (N + 1) (N + 1),.int .i64 ((k : Int) + 1),.pointer (some ⟨ub,k + 1,none⟩),.int .i64 (x : Int),.slice (some ⟨ub,0,none⟩) (N + 1) (N + 1),.int .i64 (bn : Int),.pointer (some ⟨ub,bn,none⟩),.int .i64 (y : Int),.bool true,.slice (some ⟨nb,0,none⟩) cl cl,.slice (some ⟨ub,0,none⟩) (N + 1) (N + 1),.int .i64 ((k : Int) + 1),.pointer (some ⟨ub,k + 1,none⟩),.int .i64 (x : Int),.pointer (some ⟨nb,x,none⟩),.int .i64 v,.int .i64 (v + 1),.pointer (some ⟨nb,x,none⟩),u65,u66,u67,u68,u69,u70,u71,u72,u73,u74,u75,u76,u77,u78,u79,u80,u81,u82,u83,u84,undef,undef,undef,undef,undef,undef,undef,undef,undef,undef,undef,undef,undef,undef,undef,undef,undef,undef,undef,undef,undef,undef,undef,undef,undef,undef,undef,undef,undef,undef,undef,undef,undef,undef,undef,undef,undef,undef,undef,undef,undef,undef,undef,undef,undef,undef,undef,undef,undef,undef,undef,undef,undef,undef,undef,undef,undef,undef,undef,undef,undef,undef,undef,undef,undef,undef],defers := [] } ∧ (Kept (wb :: (us y).ownBlock.toList) w4 w') ∧ (Blk w' ub 3 (intC AT)) ∧ (b17 = false → SrS w cA cl cc w.heap.size ub nb wb B AT w' ND U0 us ls) ∧ (b17 = true → b19 = false → ∃ Wa l',SrS w cA cl cc w.heap.size ub nb wb B AT Wa ND U0 us ls ∧ OwnI w' B u82 l' (U0 y ++ [(x : Int)]) ∧ Wa.grownBy w' (us y).ownBlock ∧ (∀ k,u82.ownBlock = some k → (us y).ownBlock = some k ∨ Wa.heap.size ≤ k) ∧ w4.heap.size ≤ Wa.heap.size) ∧ (b19 = true → ∃ l',SrS w cA cl cc w.heap.size ub nb wb B AT w' ND (updG U0 y (U0 y ++ [(x : Int)])) (fun j => if j = y then u82 else us j) (fun j => if j = y then l' else ls j)) ∧ (b0 = true → u65 = .slice (some ⟨wb,0,none⟩) cl cl) ∧ (b1 = true → u66 = .slice (some ⟨ub,0,none⟩) (N + 1) (N + 1)) ∧ (b2 = true → u67 = .int .i64 (bn : Int)) ∧ (b3 = true → u68 = .pointer (some ⟨ub,bn,none⟩)) ∧ (b4 = true → u69 = .int .i64 (y : Int)) ∧ (b5 = true → u70 = .slice (some ⟨wb,0,none⟩) cl cl) ∧ (b6 = true → u71 = .slice (some ⟨ub,0,none⟩) (N + 1) (N + 1)) ∧ (b7 = true → u72 = .int .i64 (bn : Int)) ∧ (b8 = true → u73 = .pointer (some ⟨ub,bn,none⟩)) ∧ (b9 = true → u74 = .int .i64 (y : Int)) ∧ (b10 = true → u75 = .pointer (some ⟨wb,y,none⟩)) ∧ (b11 = true → u76 = us y) ∧ (b12 = true → u77 = .slice (some ⟨ub,0,none⟩) (N + 1) (N + 1)) ∧ (b13 = true → u78 = .int .i64 ((k : Int) + 1)) ∧ (b14 = true → u79 = .pointer (some ⟨ub,k + 1,none⟩)) ∧ (b15 = true → u80 = .int .i64 (x : Int)) ∧ (b18 = true → u83 = .pointer (some ⟨wb,y,none⟩)) ∧ (b16 = true → ∃ q,u81 = .slice (some ⟨q,0,none⟩) 1 1 ∧ (b17 = false → Blk w' q 3 #[.int .i64 (x : Int)])) ∧ (b19 = true → b17 = true) ∧ (b17 = true → b16 = true ∧ b11 = true)) (by kernel_rfl) ?start ?step ?_
      case start => exact ⟨false,false,false,false,false,false,false,false,false,false,false,false,false,false,false,false,false,false,false,false,_,_,_,_,_,_,_,_,_,_,_,_,_,_,_,_,_,_,_,rfl,rfl,(Kept.refl _ _).drew,HUA.out.drew,(fun _ => HO4.out.ext ((Below.refl _ _).drew)),(by simp),(by simp),(by simp),(by simp),(by simp),(by simp),(by simp),(by simp),(by simp),(by simp),(by simp),(by simp),(by simp),(by simp),(by simp),(by simp),(by simp),(by simp),(by simp),(by simp),(by simp),(by simp)⟩
      case step =>
       rintro listed a' w' i o ⟨b0,b1,b2,b3,b4,b5,b6,b7,b8,b9,b10,b11,b12,b13,b14,b15,b16,b17,b18,b19,u65,u66,u67,u68,u69,u70,u71,u72,u73,u74,u75,u76,u77,u78,u79,u80,u81,u82,u83,rfl,rfl,hk0,hA,fG,fA,fE,f0,f1,f2,f3,f4,f5,f6,f7,f8,f9,f10,f11,f12,f13,f14,f15,f18,f16,c19,c17⟩ ho hli hd K hK
       match i,ho,hli,hd with
       | 0,ho,hli,hd =>
        obtain rfl := Option.some.inj ho
        obtain rfl : b0 = false := hli
        have HH := Lib.hid (And.intro c19 c17)
        clear c19 c17
        go_simp
        exact hK _ _ ⟨_,_,_,_,_,_,_,_,_,_,_,_,_,_,_,_,_,_,_,_,_,_,_,_,_,_,_,_,_,_,_,_,_,_,_,_,_,_,_,rfl,rfl,hk0,hA,fG,fA,fE,(fun _ => rfl),f1,f2,f3,f4,f5,f6,f7,f8,f9,f10,f11,f12,f13,f14,f15,f18,f16,HH.out.1,HH.out.2⟩
       | 1,ho,hli,hd =>
        obtain rfl := Option.some.inj ho
        obtain rfl : b1 = false := hli
        have HH := Lib.hid (And.intro c19 c17)
        clear c19 c17
        go_simp
        exact hK _ _ ⟨_,_,_,_,_,_,_,_,_,_,_,_,_,_,_,_,_,_,_,_,_,_,_,_,_,_,_,_,_,_,_,_,_,_,_,_,_,_,_,rfl,rfl,hk0,hA,fG,fA,fE,f0,(fun _ => rfl),f2,f3,f4,f5,f6,f7,f8,f9,f10,f11,f12,f13,f14,f15,f18,f16,HH.out.1,HH.out.2⟩
       | 2,ho,hli,hd =>
        obtain rfl := Option.some.inj ho
        obtain rfl : b2 = false := hli
        have HH := Lib.hid (And.intro c19 c17)
        clear c19 c17
        go_simp
        exact hK _ _ ⟨_,_,_,_,_,_,_,_,_,_,_,_,_,_,_,_,_,_,_,_,_,_,_,_,_,_,_,_,_,_,_,_,_,_,_,_,_,_,_,rfl,rfl,hk0,hA,fG,fA,fE,f0,f1,(fun _ => rfl),f3,f4,f5,f6,f7,f8,f9,f10,f11,f12,f13,f14,f15,f18,f16,HH.out.1,HH.out.2⟩
       | 3,ho,hli,hd =>
        obtain rfl := Option.some.inj ho
        obtain rfl : b3 = false := hli
        obtain rfl : b1 = true := hd ⟨1,.data⟩ (by simp) rfl
        obtain rfl : b2 = true := hd ⟨2,.data⟩ (by simp) rfl
        obtain rfl := f1 rfl
        obtain rfl := f2 rfl
        have HH := Lib.hid (And.intro c19 c17)
        clear c19 c17
        go_simp
        exact hK _ _ ⟨_,_,_,_,_,_,_,_,_,_,_,_,_,_,_,_,_,_,_,_,_,_,_,_,_,_,_,_,_,_,_,_,_,_,_,_,_,_,_,rfl,rfl,hk0,hA,fG,fA,fE,f0,f1,f2,(fun _ => rfl),f4,f5,f6,f7,f8,f9,f10,f11,f12,f13,f14,f15,f18,f16,HH.out.1,HH.out.2⟩
       | 4,ho,hli,hd =>
        obtain rfl := Option.some.inj ho
        obtain rfl : b4 = false := hli
        obtain rfl : b3 = true := hd ⟨3,.data⟩ (by simp) rfl
        obtain rfl := f3 rfl
        have hm : w'.cell? ⟨ub,bn,none⟩ = some (.int .i64 (y : Int)) := by rw [hA.cell]; exact HCB.out
        have HH := Lib.hid (And.intro c19 c17)
        clear c19 c17
        go_simp
        exact hK _ _ ⟨_,_,_,_,_,_,_,_,_,_,_,_,_,_,_,_,_,_,_,_,_,_,_,_,_,_,_,_,_,_,_,_,_,_,_,_,_,_,_,rfl,rfl,hk0,hA,fG,fA,fE,f0,f1,f2,f3,(fun _ => rfl),f5,f6,f7,f8,f9,f10,f11,f12,f13,f14,f15,f18,f16,HH.out.1,HH.out.2⟩
       | 5,ho,hli,hd =>
        obtain rfl := Option.some.inj ho
        obtain rfl : b5 = false := hli
        have HH := Lib.hid (And.intro c19 c17)
        clear c19 c17
        go_simp
        exact hK _ _ ⟨_,_,_,_,_,_,_,_,_,_,_,_,_,_,_,_,_,_,_,_,_,_,_,_,_,_,_,_,_,_,_,_,_,_,_,_,_,_,_,rfl,rfl,hk0,hA,fG,fA,fE,f0,f1,f2,f3,f4,(fun _ => rfl),f6,f7,f8,f9,f10,f11,f12,f13,f14,f15,f18,f16,HH.out.1,HH.out.2⟩
       | 6,ho,hli,hd =>
        obtain rfl := Option.some.inj ho
        obtain rfl : b6 = false := hli
        have HH := Lib.hid (And.intro c19 c17)
        clear c19 c17
        go_simp
        exact hK _ _ ⟨_,_,_,_,_,_,_,_,_,_,_,_,_,_,_,_,_,_,_,_,_,_,_,_,_,_,_,_,_,_,_,_,_,_,_,_,_,_,_,rfl,rfl,hk0,hA,fG,fA,fE,f0,f1,f2,f3,f4,f5,(fun _ => rfl),f7,f8,f9,f10,f11,f12,f13,f14,f15,f18,f16,HH.out.1,HH.out.2⟩
       | 7,ho,hli,hd =>
        obtain rfl := Option.some.inj ho
        obtain rfl : b7 = false := hli
        have HH := Lib.hid (And.intro c19 c17)
        clear c19 c17
        go_simp
        exact hK _ _ ⟨_,_,_,_,_,_,_,_,_,_,_,_,_,_,_,_,_,_,_,_,_,_,_,_,_,_,_,_,_,_,_,_,_,_,_,_,_,_,_,rfl,rfl,hk0,hA,fG,fA,fE,f0,f1,f2,f3,f4,f5,f6,(fun _ => rfl),f8,f9,f10,f11,f12,f13,f14,f15,f18,f16,HH.out.1,HH.out.2⟩
       | 8,ho,hli,hd =>
        obtain rfl := Option.some.inj ho
        obtain rfl : b8 = false := hli
        obtain rfl : b6 = true := hd ⟨6,.data⟩ (by simp) rfl
        obtain rfl : b7 = true := hd ⟨7,.data⟩ (by simp) rfl
        obtain rfl := f6 rfl
        obtain rfl := f7 rfl
        have HH := Lib.hid (And.intro c19 c17)
        clear c19 c17
        go_simp
        exact hK _ _ ⟨_,_,_,_,_,_,_,_,_,_,_,_,_,_,_,_,_,_,_,_,_,_,_,_,_,_,_,_,_,_,_,_,_,_,_,_,_,_,_,rfl,rfl,hk0,hA,fG,fA,fE,f0,f1,f2,f3,f4,f5,f6,f7,(fun _ => rfl),f9,f10,f11,f12,f13,f14,f15,f18,f16,HH.out.1,HH.out.2⟩
       | 9,ho,hli,hd =>
        obtain rfl := Option.some.inj ho
        obtain rfl : b9 = false := hli
        obtain rfl : b8 = true := hd ⟨8,.data⟩ (by simp) rfl
        obtain rfl := f8 rfl
        have hm : w'.cell? ⟨ub,bn,none⟩ = some (.int .i64 (y : Int)) := by rw [hA.cell]; exact HCB.out
        have HH := Lib.hid (And.intro c19 c17)
        clear c19 c17
        go_simp
        exact hK _ _ ⟨_,_,_,_,_,_,_,_,_,_,_,_,_,_,_,_,_,_,_,_,_,_,_,_,_,_,_,_,_,_,_,_,_,_,_,_,_,_,_,rfl,rfl,hk0,hA,fG,fA,fE,f0,f1,f2,f3,f4,f5,f6,f7,f8,(fun _ => rfl),f10,f11,f12,f13,f14,f15,f18,f16,HH.out.1,HH.out.2⟩
       | 10,ho,hli,hd =>
        obtain rfl := Option.some.inj ho
        obtain rfl : b10 = false := hli
        obtain rfl : b5 = true := hd ⟨5,.data⟩ (by simp) rfl
        obtain rfl : b9 = true := hd ⟨9,.data⟩ (by simp) rfl
        obtain rfl := f5 rfl
        obtain rfl := f9 rfl
        have HH := Lib.hid (And.intro c19 c17)
        clear c19 c17
        go_simp
        exact hK _ _ ⟨_,_,_,_,_,_,_,_,_,_,_,_,_,_,_,_,_,_,_,_,_,_,_,_,_,_,_,_,_,_,_,_,_,_,_,_,_,_,_,rfl,rfl,hk0,hA,fG,fA,fE,f0,f1,f2,f3,f4,f5,f6,f7,f8,f9,(fun _ => rfl),f11,f12,f13,f14,f15,f18,f16,HH.out.1,HH.out.2⟩
       | 11,ho,hli,hd =>
        obtain rfl := Option.some.inj ho
        obtain rfl : b11 = false := hli
        obtain rfl : b10 = true := hd ⟨10,.data⟩ (by simp) rfl
        obtain rfl := f10 rfl
        have e17 : b17 = false := by
         cases hh : b17 with
         | false => rfl
         | true => have := (c17 hh).2; cases this
        subst e17
        have hm : w'.cell? ⟨wb,y,none⟩ = some (us y) := (fG rfl).gr.cell hycl
        have HH := Lib.hid (And.intro c19 c17)
        clear c19 c17
        go_simp
        exact hK _ _ ⟨_,_,_,_,_,_,_,_,_,_,_,_,_,_,_,_,_,_,_,_,_,_,_,_,_,_,_,_,_,_,_,_,_,_,_,_,_,_,_,rfl,rfl,hk0,hA,fG,fA,fE,f0,f1,f2,f3,f4,f5,f6,f7,f8,f9,f10,(fun _ => rfl),f12,f13,f14,f15,f18,f16,HH.out.1,(fun e => by cases e)⟩
       | 12,ho,hli,hd =>
        obtain rfl := Option.some.inj ho
        obtain rfl : b12 = false := hli
        have HH := Lib.hid (And.intro c19 c17)
        clear c19 c17
        go_simp
        exact hK _ _ ⟨_,_,_,_,_,_,_,_,_,_,_,_,_,_,_,_,_,_,_,_,_,_,_,_,_,_,_,_,_,_,_,_,_,_,_,_,_,_,_,rfl,rfl,hk0,hA,fG,fA,fE,f0,f1,f2,f3,f4,f5,f6,f7,f8,f9,f10,f11,(fun _ => rfl),f13,f14,f15,f18,f16,HH.out.1,HH.out.2⟩
       | 13,ho,hli,hd =>
        obtain rfl := Option.some.inj ho
        obtain rfl : b13 = false := hli
        have HH := Lib.hid (And.intro c19 c17)
        clear c19 c17
        go_simp
        exact hK _ _ ⟨_,_,_,_,_,_,_,_,_,_,_,_,_,_,_,_,_,_,_,_,_,_,_,_,_,_,_,_,_,_,_,_,_,_,_,_,_,_,_,rfl,rfl,hk0,hA,fG,fA,fE,f0,f1,f2,f3,f4,f5,f6,f7,f8,f9,f10,f11,f12,(fun _ => rfl),f14,f15,f18,f16,HH.out.1,HH.out.2⟩
       | 14,ho,hli,hd =>
        obtain rfl := Option.some.inj ho
        obtain rfl : b14 = false := hli
        obtain rfl : b12 = true := hd ⟨12,.data⟩ (by simp) rfl
        obtain rfl : b13 = true := hd ⟨13,.data⟩ (by simp) rfl
        obtain rfl := f12 rfl
        obtain rfl := f13 rfl
        have HH := Lib.hid (And.intro c19 c17)
        clear c19 c17
        go_simp
        exact hK _ _ ⟨_,_,_,_,_,_,_,_,_,_,_,_,_,_,_,_,_,_,_,_,_,_,_,_,_,_,_,_,_,_,_,_,_,_,_,_,_,_,_,rfl,rfl,hk0,hA,fG,fA,fE,f0,f1,f2,f3,f4,f5,f6,f7,f8,f9,f10,f11,f12,f13,(fun _ => rfl),f15,f18,f16,HH.out.1,HH.out.2⟩
       | 15,ho,hli,hd =>
        obtain rfl := Option.some.inj ho
        obtain rfl : b15 = false := hli
        obtain rfl : b14 = true := hd ⟨14,.data⟩ (by simp) rfl
        obtain rfl := f14 rfl
        have hm : w'.cell? ⟨ub,k + 1,none⟩ = some (.int .i64 (x : Int)) := by rw [hA.cell]; exact HCA.out
        have HH := Lib.hid (And.intro c19 c17)
        clear c19 c17
        go_simp
        exact hK _ _ ⟨_,_,_,_,_,_,_,_,_,_,_,_,_,_,_,_,_,_,_,_,_,_,_,_,_,_,_,_,_,_,_,_,_,_,_,_,_,_,_,rfl,rfl,hk0,hA,fG,fA,fE,f0,f1,f2,f3,f4,f5,f6,f7,f8,f9,f10,f11,f12,f13,f14,(fun _ => rfl),f18,f16,HH.out.1,HH.out.2⟩
       | 16,ho,hli,hd =>
        obtain rfl := Option.some.inj ho
        obtain rfl : b16 = false := hli
        obtain rfl : b15 = true := hd ⟨15,.data⟩ (by simp) rfl
        obtain rfl := f15 rfl
        have e17 : b17 = false := by
         cases hh : b17 with
         | false => rfl
         | true => have := (c17 hh).1; cases this
        subst e17
        have e19 : b19 = false := by
         cases hh : b19 with
         | false => rfl
         | true => have := c19 hh; cases this
        subst e19
        have hb := bel_alloc w' (.cells #[.int .i64 (x : Int)] 3)
        have hk := Kept.of_below hb (wb :: (us y).ownBlock.toList)
        have HH := Lib.hid (And.intro c19 c17)
        clear c19 c17
        go_simp
        exact hK _ _ ⟨_,_,_,_,_,_,_,_,_,_,_,_,_,_,_,_,_,_,_,_,_,_,_,_,_,_,_,_,_,_,_,_,_,_,_,_,_,_,_,rfl,rfl,(hk0.trans hk),(hA.bel hb),(fun e => (fG e).ext hb),(fun e => by cases e),(fun e => by cases e),f0,f1,f2,f3,f4,f5,f6,f7,f8,f9,f10,f11,f12,f13,f14,f15,f18,(fun _ => ⟨_,rfl,fun _ => blk_new rfl _ _⟩),HH.out.1,(fun e => by cases e)⟩
       | 17,ho,hli,hd =>
        obtain rfl := Option.some.inj ho
        obtain rfl : b17 = false := hli
        obtain rfl : b11 = true := hd ⟨11,.data⟩ (by simp) rfl
        obtain rfl : b16 = true := hd ⟨16,.data⟩ (by simp) rfl
        obtain rfl := f11 rfl
        obtain ⟨q,rfl,hq⟩ := f16 rfl
        have e19 : b19 = false := by
         cases hh : b19 with
         | false => rfl
         | true => have := c19 hh; cases this
        subst e19
        have ho := fG rfl
        have hbd : ls y + 1 ≤ 17592186044416 := by have := (ho.gr.own y hycl).1; have := HLB.out; omega
        obtain ⟨v',w5,hrun,hown,hg,hat⟩ := appS (ho.gr.own y hycl) (sl_one' (hq rfl) X64.out) hbd ho.sz 23
        have hk : Kept (wb :: (us y).ownBlock.toList) w' w5 := (Kept.refl _ _).grown hg (fun k hk => .inl (List.mem_cons_of_mem _ (by simp [hk])))
        refine step_appV (by rfl) _ _ 23 (by rfl) (by rfl) (by rfl) hrun ?_
        exact hK _ _ ⟨_,_,_,_,_,_,_,_,_,_,_,_,_,_,_,_,_,_,_,_,_,_,_,_,_,_,_,_,_,_,_,_,_,_,_,_,_,_,_,rfl,rfl,(hk0.trans hk),(hA.grown hg (fun e => by have := ((ho.gr.own y hycl).2.lt _ e.symm).1; have := ho.lo; omega)),(fun e => by cases e),(fun _ _ => ⟨w',_,ho,hown,hg,hat,hk0.size⟩),(fun e => by cases e),f0,f1,f2,f3,f4,f5,f6,f7,f8,f9,f10,f11,f12,f13,f14,f15,f18,(fun _ => ⟨q,rfl,fun e => by cases e⟩),(fun e => by cases e),(fun _ => ⟨rfl,rfl⟩)⟩
       | 18,ho,hli,hd =>
        obtain rfl := Option.some.inj ho
        obtain rfl : b18 = false := hli
        obtain rfl : b0 = true := hd ⟨0,.data⟩ (by simp) rfl
        obtain rfl : b4 = true := hd ⟨4,.data⟩ (by simp) rfl
        obtain rfl := f0 rfl
        obtain rfl := f4 rfl
        have HH := Lib.hid (And.intro c19 c17)
        clear c19 c17
        go_simp
        exact hK _ _ ⟨_,_,_,_,_,_,_,_,_,_,_,_,_,_,_,_,_,_,_,_,_,_,_,_,_,_,_,_,_,_,_,_,_,_,_,_,_,_,_,rfl,rfl,hk0,hA,fG,fA,fE,f0,f1,f2,f3,f4,f5,f6,f7,f8,f9,f10,f11,f12,f13,f14,f15,(fun _ => rfl),f16,HH.out.1,HH.out.2⟩
       | 19,ho,hli,hd =>
        obtain rfl := Option.some.inj ho
        obtain rfl : b19 = false := hli
        obtain rfl : b18 = true := hd ⟨18,.data⟩ (by simp) rfl
        obtain rfl : b17 = true := hd ⟨17,.data⟩ (by simp) rfl
        obtain rfl := f18 rfl
        obtain ⟨Wa,l',ha1,ha2,ha3,ha4,ha5⟩ := fA rfl rfl
        obtain ⟨A,l2,c,rfl⟩ := ha2.shape
        have hub : Blk w' wb 23 (valCells cl us) := ha1.gr.blk.grown ha3 (fun e => by have := ((ha1.gr.own y hycl).2.lt _ e.symm).1; have := ha1.lo; omega)
        have hm : w'.cell? ⟨wb,y,none⟩ = some (us y) := by rw [hub.cell,valCells_get _ _ _ hycl]
        have hz := hub.frozen y
        have hgr := ha1.app hycl ha2 ha3 ha4
        have hlo := ha1.lo
        have hk : Kept (wb :: (us y).ownBlock.toList) w' (w'.setCell ⟨wb,y,none⟩ (.slice A l2 c)) := (Kept.refl _ _).set (.inl (by simp)) _
        have HH := Lib.hid (And.intro c19 c17)
        clear c19 c17
        go_simp
        exact hK _ _ ⟨_,_,_,_,_,_,_,_,_,_,_,_,_,_,_,_,_,_,_,_,_,_,_,_,_,_,_,_,_,_,_,_,_,_,_,_,_,_,_,rfl,rfl,(hk0.trans hk),(hA.far (show ub ≠ wb by omega) _),(fun e => by cases e),(fun _ e => by cases e),(fun _ => ⟨l',hgr⟩),f0,f1,f2,f3,f4,f5,f6,f7,f8,f9,f10,f11,f12,f13,f14,f15,f18,(fun e => by obtain ⟨q,e1,-⟩ := f16 e; exact ⟨q,e1,fun e => by cases e⟩),(fun _ => rfl),HH.out.2⟩
       | i + 20,ho,hli,hd => simp at ho
      rintro listed a' w' ⟨b0,b1,b2,b3,b4,b5,b6,b7,b8,b9,b10,b11,b12,b13,b14,b15,b16,b17,b18,b19,u65,u66,u67,u68,u69,u70,u71,u72,u73,u74,u75,u76,u77,u78,u79,u80,u81,u82,u83,rfl,rfl,hk0,hA,fG,fA,fE,f0,f1,f2,f3,f4,f5,f6,f7,f8,f9,f10,f11,f12,f13,f14,f15,f18,f16,c19,c17⟩ hr
      obtain rfl : b0 = true := ready_nil hr (i := 0) rfl (by first | (simp; done) | (simp; intro q; exact absurd q (by decide)))
      obtain rfl : b1 = true := ready_nil hr (i := 1) rfl (by first | (simp; done) | (simp; intro q; exact absurd q (by decide)))
      obtain rfl : b2 = true := ready_nil hr (i := 2) rfl (by first | (simp; done) | (simp; intro q; exact absurd q (by decide)))
      obtain rfl : b3 = true := ready_nil hr (i := 3) rfl (by first | (simp; done) | (simp; intro q; exact absurd q (by decide)))
      obtain rfl : b4 = true := ready_nil hr (i := 4) rfl (by first | (simp; done) | (simp; intro q; exact absurd q (by decide)))
      obtain rfl : b5 = true := ready_nil hr (i := 5) rfl (by first | (simp; done) | (simp; intro q; exact absurd q (by decide)))
      obtain rfl : b6 = true := ready_nil hr (i := 6) rfl (by first | (simp; done) | (simp; intro q; exact absurd q (by decide)))
      obtain rfl : b7 = true := ready_nil hr (i := 7) rfl (by first | (simp; done) | (simp; intro q; exact absurd q (by decide)))
      obtain rfl : b8 = true := ready_nil hr (i := 8) rfl (by first | (simp; done) | (simp; intro q; exact absurd q (by decide)))
      obtain rfl : b9 = true := ready_nil hr (i := 9) rfl (by first | (simp; done) | (simp; intro q; exact absurd q (by decide)))
      obtain rfl : b10 = true := ready_nil hr (i := 10) rfl (by first | (simp; done) | (simp; intro q; exact absurd q (by decide)))
      obtain rfl : b11 = true := ready_nil hr (i := 11) rfl (by first | (simp; done) | (simp; intro q; exact absurd q (by decide)))
      obtain rfl : b12 = true := ready_nil hr (i := 12) rfl (by first | (simp; done) | (simp; intro q; exact absurd q (by decide)))
      obtain rfl : b13 = true := ready_nil hr (i := 13) rfl (by first | (simp; done) | (simp; intro q; exact absurd q (by decide)))
      obtain rfl : b14 = true := ready_nil hr (i := 14) rfl (by first | (simp; done) | (simp; intro q; exact absurd q (by decide)))
      obtain rfl : b15 = true := ready_nil hr (i := 15) rfl (by first | (simp; done) | (simp; intro q; exact absurd q (by decide)))
      obtain rfl : b16 = true := ready_nil hr (i := 16) rfl (by first | (simp; done) | (simp; intro q; exact absurd q (by decide)))
      obtain rfl : b17 = true := ready_nil hr (i := 17) rfl (by first | (simp; done) | (simp; intro q; exact absurd q (by decide)))
      obtain rfl : b18 = true := ready_nil hr (i := 18) rfl (by first | (simp; done) | (simp; intro q; exact absurd q (by decide)))
      obtain rfl : b19 = true := ready_nil hr (i := 19) rfl (by first | (simp; done) | (simp; intro q; exact absurd q (by decide)))
      clear hr
      obtain ⟨l',hfin⟩ := fE rfl
      have hfin : SrS w cA cl cc w.heap.size ub nb wb B AT w' (needL (edJ g AT k (j + 1)) cl) (waitU (edJ g AT k (j + 1))) (fun j => if j = y then u82 else us j) (fun j => if j = y then l' else ls j) := by
       rw [HSTEP.out,← HND.out,waitU_snoc,← HU0.out]
       exact hfin
      have HFIN := Lib.hid hfin; clear hfin
      go_wp2_with fail
      go_roundw
      case rel => exact ⟨j + 1,_,_,by omega,by go_num,HFIN.out⟩
      case measure => simp [intOf]; omega
    ·obtain rfl : rl = j := by omega
     rw [HRL.out,edJ_end] at ho
     have HO := Lib.hid ho; clear ho
     go_wp2_with fail
     go_roundw
     case rel => exact ⟨k + 1,_,_,by omega,by go_num,HO.out⟩
     case measure => simp [intOf]; omega
  ·obtain rfl : k = N := by omega
   have hgN : g.length - 1 = k := by have := HLEN.out; omega
   have hEe : edK g AT k = edgeE g (numL (g.length - 1) cs) := by rw [hgN,← HAT.out,← edK_end,hgN]
   obtain ⟨E,hE⟩ : ∃ E,E = edK g AT k := ⟨_,rfl⟩
   rw [← hE] at ho
   have hEok : EOk E cl (headF cs) := by
    rw [hE,hEe,HCLEN.out]
    exact edge_ok (by have := HLEN.out; omega) HOK.out
   have hElen : E.length ≤ 20000000 := by
    have h1 := edK_len HG.out AT k
    have h2 : k * 4001 ≤ 4001 * 4001 := Nat.mul_le_mul_right _ (by omega)
    rw [hE]; omega
   obtain ⟨rb,hrb⟩ : ∃ rb,rb = wo.heap.size := ⟨_,rfl⟩
   have hus : ∀ a,a < cl → ∀ q,(us a).ownBlock = some q → q < rb := fun a ha q hq => by rw [hrb]; exact ((ho.gr.own a ha).2.lt q hq).2
   have hBrb : B ≤ rb := by rw [hrb]; exact ho.sz
   have hwrb : w.heap.size ≤ rb := by rw [hrb]; exact ho.bel.size
   have ho1 := ho.ext (bel_alloc wo (.cells #[.slice none 0 0] 23))
   have hr1 : Blk (wo.alloc (.cells #[.slice none 0 0] 23)) rb 23 #[.slice none 0 0] := blk_new hrb.symm _ _
   have hsz1 : rb + 1 ≤ (wo.alloc (.cells #[.slice none 0 0] 23)).heap.size := by rw [hrb]; simp
   have hcb : wo.cell? ⟨w.heap.size,0,none⟩ = some (.slice cA cl cc) := ho.bc.cell 0
   have hcb1 : (wo.alloc (.cells #[.slice none 0 0] 23)).cell? ⟨w.heap.size,0,none⟩ = some (.slice cA cl cc) := ho1.bc.cell 0
   have HO := Lib.hid ho; clear ho
   have HGN := Lib.hid hgN; clear hgN
   have HEE := Lib.hid hEe; clear hEe
   have HE := Lib.hid hE; clear hE
   have HEOK := Lib.hid hEok; clear hEok
   have HELEN := Lib.hid hElen; clear hElen
   have HUS := Lib.hid hus; clear hus
   have HO1 := Lib.hid ho1; clear ho1
   have HR1 := Lib.hid hr1; clear hr1
   go_wp2_with fail
   rw [← hrb]
   clear hcb hcb1
   generalize wo.alloc (.cells #[.slice none 0 0] 23) = w3 at *
   have HRB := Lib.hid hrb; clear hrb
   go_loopw [88] (fun t wr => ∃ (i : Nat) (v : Value),i ≤ cl ∧ t = .int .i64 (i : Int) ∧ SrS w cA cl cc w.heap.size ub nb wb B AT wr (needL E cl) (waitU E) us ls ∧ Blk wr rb 23 #[v] ∧ OwnO wr (rb + 1) v (rdK (headF cs) E i) ∧ rb + 1 ≤ wr.heap.size) (fun t _ => cl - (intOf t).toNat)
   case atStart => exact ⟨0,_,Nat.zero_le _,rfl,HO1.out,HR1.out,OwnO.nil _ _,hsz1⟩
   case round =>
    obtain ⟨i,v,hi,rfl,ho,hr,hv,hsz⟩ := hrel
    obtain ⟨wi,rfl⟩ : ∃ wi : World,wi = wr := ⟨_,rfl⟩
    by_cases hil : i < cl
    ·skip
     obtain ⟨z,hz⟩ : ∃ z : Nat,z = needN E [] (i : Int) := ⟨_,rfl⟩
     have hst := rdK_succ (headF cs) E i
     rw [← hz] at hst
     have hini := init_rd (E := E) HEOK.out.f i (by omega)
     have i0 : (0 : Int) ≤ (i : Int) := by omega
     have i1 : (i : Int) < (cl : Int) := by omega
     have m1 : wi.cell? ⟨nb,i,none⟩ = some (.int .i64 (z : Int)) := by rw [ho.bn.cell,intC_at (needL_len _ _) hil,needL_at _ hil,hz]
     by_cases hz0 : z = 0
     ·subst hz0
      rw [if_pos rfl] at hst
      have hrng : ∀ x ∈ rdK (headF cs) E i,0 ≤ x ∧ x < (cl : Int) := fun x hx => by
       have := (hini.2 x).1 hx
       omega
      have hrl := rd_len (m := cl) (rd := rdK (headF cs) E i) hini.1 hrng
      have hput := put_any rb w.heap.size cA cl cc cs v (rdK (headF cs) E i) (rb + 1) i wi hr hv hsz (by omega) ho.bc (HC.out.unfr.ext ho.bel) hil hrng HNE.out hini.1 (by omega) (by omega)
      rw [← hst] at hput
      have hpk : ∀ q ∈ rb :: v.ownBlock.toList,B ≤ q ∧ ∀ a,a < cl → (us a).ownBlock ≠ some q := fun q hq => by
       have hq : q = rb ∨ q ∈ v.ownBlock.toList := by simpa using hq
       rcases hq with rfl | hq
       ·exact ⟨hBrb,fun a ha e => by have := HUS.out a ha _ e; omega⟩
       ·have h1 := (hv.lt (by simpa using hq)).1
        exact ⟨by omega,fun a ha e => by have := HUS.out a ha _ e; omega⟩
      have HO := Lib.hid ho; clear ho
      have HR := Lib.hid hr; clear hr
      have HV := Lib.hid hv; clear hv
      have HZ := Lib.hid hz; clear hz
      have HST := Lib.hid hst; clear hst
      have HINI := Lib.hid hini; clear hini
      have HRNG := Lib.hid hrng; clear hrng
      have HPUT := Lib.hid hput; clear hput
      have HPK := Lib.hid hpk; clear hpk
      have HRL := Lib.hid hrl; clear hrl
      go_wp2_with fail
      go_fit HPUT.out; rintro e w6 ⟨rfl,v',hr',hv',hk',hvb'⟩
      have ho' := HO.out.kept hk' HPK.out
      have hsz' := Nat.le_trans hsz hk'.size
      have HR' := Lib.hid hr'; clear hr'
      have HV' := Lib.hid hv'; clear hv'
      have HK' := Lib.hid hk'; clear hk'
      have HVB' := Lib.hid hvb'; clear hvb'
      have HO' := Lib.hid ho'; clear ho'
      go_wp2_with fail
      go_roundw
      case rel => exact ⟨i + 1,v',by omega,by go_num,HO'.out,HR'.out,HV'.out,hsz'⟩
      case measure => simp [intOf]; omega
     ·rw [if_neg hz0] at hst
      rw [← hst] at hv
      have z1 : ((z : Int) == 0) = false := by simp; omega
      have HO := Lib.hid ho; clear ho
      have HR := Lib.hid hr; clear hr
      have HV := Lib.hid hv; clear hv
      have HZ := Lib.hid hz; clear hz
      have HST := Lib.hid hst; clear hst
      have HINI := Lib.hid hini; clear hini
      go_wp2_with fail
      go_roundw
      case rel => exact ⟨i + 1,v,by omega,by go_num,HO.out,HR.out,HV.out,hsz⟩
      case measure => simp [intOf]; omega
    ·obtain rfl : cl = i := by omega
     have hK0 := init_inv HEOK.out
     have hzs : (rb + 1) ≤ wi.heap.size := hsz
     have HR := Lib.hid hr; clear hr
     have HV := Lib.hid hv; clear hv
     have HK0 := Lib.hid hK0; clear hK0
     go_wp2_with fail
     go_loopw [12] (fun t wr => ∃ (n : Nat) (s : KS) (v : Value) (ol : Nat),s = kIter (headF cs) (waitL E) n (kInit (headF cs) E cl) ∧ KInv E cl (headF cs) s ∧ s.ord.length = n ∧ SrS w cA cl cc w.heap.size ub nb wb B AT wr s.nd (waitU E) us ls ∧ Blk wr rb 23 #[v] ∧ OwnO wr (rb + 1) v s.rd ∧ OwnI wr (rb + 1) t ol s.ord ∧ (∀ q,v.ownBlock = some q → t.ownBlock ≠ some q) ∧ rb + 1 ≤ wr.heap.size) (fun t _ => cl + 1 - slLen2 t)
     case atStart => exact ⟨0,kInit (headF cs) E cl,_,0,rfl,HK0.out,rfl,ho,HR.out,HV.out,OwnI.nil _ _,by simp [Value.ownBlock],hsz⟩
     case round =>
      obtain ⟨n,s,v,ol,hs,hk,hol,ho,hr,hv,hov,hvo,hsz⟩ := hrel
      obtain ⟨wi,rfl⟩ : ∃ wi : World,wi = wr := ⟨_,rfl⟩
      have hole := ord_le hk
      have hoe := hov.len
      obtain ⟨oA,oc,rfl⟩ : ∃ A c,u12 = .slice A ol c := by
       rcases hov.2.2 with ⟨e,h0⟩ | ⟨g',cap',cur',e,_⟩
       ·subst h0; exact ⟨_,_,e⟩
       ·exact ⟨_,_,e⟩
      match hrd : s.rd with
      | [] =>
       rw [hrd] at hv
       obtain ⟨vA,vc,rfl⟩ := hv.shape
       rw [show ([] : List Int).length = 0 from rfl] at hr hvo
       have m0 : wi.cell? ⟨rb,0,none⟩ = some (.slice vA 0 vc) := hr.cell 0
       have hord : kOrd (headF cs) E cl = s.ord := by
        rw [kOrd_of (n := n) (by omega) (by rw [← hs]; exact hrd),← hs]
       have h64o : ∀ x ∈ s.ord,I64 x := fun x hx => by have := hk.rng x hx; unfold I64; omega
       obtain ⟨oA2,oc2,e,hso⟩ := hov.sl (by omega) h64o
       injection e with e1 _ e2
       subst e1 e2
       have hsoc := hso.cap
       have hsom := hso.max
       have hb0w := ho.bel
       have hres : sortT g cs = s.ord.map fun i => cs.getD i.toNat [] := by
        unfold sortT
        rw [← hord,← HEE.out,← HE.out,← HCLEN.out]
       have hwB : w.heap.size ≤ wi.heap.size := hb0w.size
       have hbc := ho.bc
       have hO0 : OwnB (frR Fb) 23 w wi.heap.size wi (.slice none 0 0) ((s.ord.take 0).map fun i => cs.getD i.toNat []) := OwnB.nil hb0w hwB (Nat.le_refl _)
       have hrg := hk.rng
       have HS := Lib.hid hs; clear hs
       have HK := Lib.hid hk; clear hk
       have HOL := Lib.hid hol; clear hol
       have HO := Lib.hid ho; clear ho
       have HR := Lib.hid hr; clear hr
       have HV := Lib.hid hv; clear hv
       have HOV := Lib.hid hov; clear hov
       have HVO := Lib.hid hvo; clear hvo
       have HORD := Lib.hid hord; clear hord
       have HSO := Lib.hid hso; clear hso
       have H64O := Lib.hid h64o; clear h64o
       have HB0W := Lib.hid hb0w; clear hb0w
       have HRES := Lib.hid hres; clear hres
       have HBC := Lib.hid hbc; clear hbc
       have HO0 := Lib.hid hO0; clear hO0
       have HRG := Lib.hid hrg; clear hrg
       have HOE := Lib.hid hoe; clear hoe
       go_wp2_with fail
       go_loopw [18,138] (fun o t wr => ∃ q : Nat,q ≤ ol ∧ t = .int .i64 (q : Int) ∧ OwnB (frR Fb) 23 w wi.heap.size wr o ((s.ord.take q).map fun i => cs.getD i.toNat []) ∧ Below wi.heap.size wi wr) (fun _ t _ => ol - (intOf t).toNat)
       case atStart => exact ⟨0,Nat.zero_le _,rfl,HO0.out,Below.refl _ _⟩
       case round =>
        obtain ⟨q,hq,rfl,hO,hbw⟩ := hrel
        obtain ⟨w6,rfl⟩ : ∃ w6 : World,w6 = wr := ⟨_,rfl⟩
        by_cases hql : q < ol
        ·obtain ⟨i,hi,-⟩ := HSO.out.drop hql
         obtain ⟨eb,eo,rfl,le,ce,b64⟩ := (HSO.out.ext hbw).int hi
         obtain ⟨g0,g1⟩ := HRG.out i (List.mem_of_getElem? hi)
         obtain ⟨iN,rfl⟩ : ∃ iN : Nat,i = (iN : Int) := ⟨i.toNat,by omega⟩
         have hicl : iN < cl := by omega
         obtain ⟨x,hx⟩ : ∃ x,cs[iN]? = some x := ⟨_,List.getElem?_eq_getElem (by have := HCLEN.out; omega)⟩
         have hxd : cs.getD (iN : Int).toNat [] = x := by rw [Int.toNat_natCast,List.getD_eq_getElem?_getD,hx]; rfl
         obtain ⟨xb,xo,xA,xl,xc,rfl,lx0,cx0,hxs,hxf⟩ := HC.out.setF hx
         have cx := (hO.below.cell (World.block_lt_of_cell? _ _ cx0)).trans cx0
         have hbc6 : w6.cell? ⟨w.heap.size,0,none⟩ = some (.slice (some ⟨xb,xo,none⟩) cl cc) := (HBC.out.bel hbw).cell 0
         have hln : ((s.ord.take q).map fun i => cs.getD i.toNat []).length < 1099511627776 := by
          rw [List.length_map,List.length_take]
          have := HOE.out
          omega
         obtain ⟨v',w7,hrun,hown,hg7,hat⟩ := hO.app1 (ety_fr Fb) [.slice xA xl xc] x ⟨_,_,_,rfl,hxs,hxf⟩ hln 44
         have hsn : ((s.ord.take q).map fun i => cs.getD i.toNat []) ++ [x] = (s.ord.take (q + 1)).map fun i => cs.getD i.toNat [] := by
          rw [take_snoc' hi,List.map_append,← hxd]; rfl
         rw [hsn] at hown
         have hbw7 : Below wi.heap.size wi w7 := bel_grown hbw hg7 hbw.size (fun k hk => (hO.lt hk).1)
         have j0 : (0 : Int) ≤ (q : Int) := by omega
         have j1 : (q : Int) < (ol : Int) := by omega
         have i0 : (0 : Int) ≤ (iN : Int) := by omega
         have i1 : (iN : Int) < (cl : Int) := by omega
         clear cx0
         have HO := Lib.hid hO; clear hO
         have HBW := Lib.hid hbw; clear hbw
         have HI := Lib.hid hi; clear hi
         have HX := Lib.hid hx; clear hx
         have HXD := Lib.hid hxd; clear hxd
         have HXS := Lib.hid hxs; clear hxs
         have HLN := Lib.hid hln; clear hln
         have HRUN := Lib.hid hrun; clear hrun
         have HOWN := Lib.hid hown; clear hown
         have HG7 := Lib.hid hg7; clear hg7
         have HAT := Lib.hid hat; clear hat
         have HSN := Lib.hid hsn; clear hsn
         have HBW7 := Lib.hid hbw7; clear hbw7
         have B64 := Lib.hid b64; clear b64
         go_wp2_with (at_builtin; refine wpList_append_run rfl _ _ _ rfl _ _ rfl rfl _ _ HRUN.out ?_)
         go_roundw
         case rel => exact ⟨q + 1,by omega,by go_num,HOWN.out,HBW7.out⟩
         case measure => simp [intOf]; omega
        ·obtain rfl : ol = q := by omega
         rw [List.take_of_length_le (by have := HOE.out; omega),← HRES.out] at hO
         have hlr : (sortT g cs).length ≤ 17592186044416 := by
          rw [HRES.out,List.length_map]
          have := HOE.out
          omega
         obtain ⟨A,c,e,hsl⟩ := hO.sl hlr
         have hbel := hO.below
         subst e
         have hfr : Frs w.heap.size A (sortT g cs).length := fun _ ad e => by
          subst e
          exact Nat.le_trans hwB (hO.lt rfl).1
         obtain ⟨ll,hll⟩ : ∃ ll,ll = (sortT g cs).length := ⟨_,rfl⟩
         rw [← hll] at hsl hfr
         have HO := Lib.hid hO; clear hO
         have HBW := Lib.hid hbw; clear hbw
         have HLR := Lib.hid hlr; clear hlr
         have HSL := Lib.hid hsl; clear hsl
         have HBEL := Lib.hid hbel; clear hbel
         have HLL := Lib.hid hll; clear hll
         go_wp2_with fail
         go_ret
         exact ⟨_,_,_,rfl,by rw [← HLL.out]; exact HSL.out,by rw [← HLL.out]; exact hfr,HBEL.out⟩
      | i :: r =>
       rw [hrd] at hv
       have hv0 := hv
       rcases hv0 with ⟨-,e2⟩ | ⟨vg,vo,vc,cur,rfl,v1,v2,v3,v4,v5,v6⟩
       ·cases e2
       obtain ⟨q0,q1⟩ := hk.rrng i (by rw [hrd]; simp)
       obtain ⟨iN,rfl⟩ : ∃ iN : Nat,i = (iN : Int) := ⟨i.toNat,by omega⟩
       have hicl : iN < cl := by omega
       obtain ⟨rl2,hrl2⟩ : ∃ rl2,rl2 = r.length := ⟨_,rfl⟩
       have el : ((iN : Int) :: r).length = rl2 + 1 := by rw [hrl2]; rfl
       rw [el] at hr hv hvo v3
       have m0 : wi.cell? ⟨rb,0,none⟩ = some (.slice (some ⟨vg,vo,none⟩) (rl2 + 1) vc) := hr.cell 0
       have f0 := hr.frozen 0
       have m1 : wi.cell? ⟨vg,vo,none⟩ = some (.int .i64 (iN : Int)) := by
        rw [v2.cell]
        have := v6 0 _ rfl
        simpa using this
       have hvg := (hv.lt (k := vg) rfl).2
       have hvg1 := (hv.lt (k := vg) rfl).1
       clear el v2 v6 v5
       have hs_ := hs
       clear hs
       have HS_ := Lib.hid hs_; clear hs_
       have HK := Lib.hid hk; clear hk
       have HOL := Lib.hid hol; clear hol
       have HO := Lib.hid ho; clear ho
       have HR := Lib.hid hr; clear hr
       have HV := Lib.hid hv; clear hv
       have HOV := Lib.hid hov; clear hov
       have HVO := Lib.hid hvo; clear hvo
       have HRL2 := Lib.hid hrl2; clear hrl2
       have HOE := Lib.hid hoe; clear hoe
       go_upto_region 23 with fail
       go_cut [15] (fun s15 wx => s15 = .int .i64 (iN : Int) ∧ ∃ v2,SrS w cA cl cc w.heap.size ub nb wb B AT wx s.nd (waitU E) us ls ∧ Blk wx rb 23 #[v2] ∧ OwnO wx (rb + 1) v2 r ∧ (∀ q,v2.ownBlock = some q → q = vg) ∧ OwnI wx (rb + 1) (.slice oA ol oc) ol s.ord ∧ wx.heap.size = wi.heap.size)
       case first =>
        have hset : ∀ u : Value,SrS w cA cl cc w.heap.size ub nb wb B AT (wi.setCell ⟨rb,0,none⟩ u) s.nd (waitU E) us ls ∧ Blk (wi.setCell ⟨rb,0,none⟩ u) rb 23 #[u] ∧ OwnI (wi.setCell ⟨rb,0,none⟩ u) (rb + 1) (.slice oA ol oc) ol s.ord ∧ (∀ v2 xs,OwnO wi (rb + 1) v2 xs → OwnO (wi.setCell ⟨rb,0,none⟩ u) (rb + 1) v2 xs) := fun u => by
         have hk2 : Kept [rb] wi (wi.setCell ⟨rb,0,none⟩ u) := (Kept.refl _ _).set (.inl (by simp)) _
         refine ⟨HO.out.kept hk2 (fun q hq => ?_),HR.out.set_ 0 u,HOV.out.keptS hk2 (fun q hq hm => ?_),fun v2 xs h => h.keptS hk2 (fun q hq hm => ?_)⟩
         ·have e : q = rb := by simpa using hq
          subst e
          exact ⟨hBrb,fun a ha e => by have := HUS.out a ha _ e; omega⟩
         ·have e : q = rb := by simpa using hm
          subst e
          have := (HOV.out.2.lt _ hq).1; omega
         ·have e : q = rb := by simpa using hm
          subst e
          have := (h.lt hq).1; omega
        by_cases hv1 : vc = 1
        ·subst hv1
         obtain ⟨ht,hr0⟩ := HV.out.tail1
         have hrl0 : rl2 = 0 := by omega
         subst hrl0
         obtain ⟨s1,s2,s3,s4⟩ := hset (.slice (some ⟨vg,vo,none⟩) 0 0)
         have s5 := s4 _ _ ht
         clear s4 hset
         have S1 := Lib.hid s1; clear s1
         have S2 := Lib.hid s2; clear s2
         have S3 := Lib.hid s3; clear s3
         have S5 := Lib.hid s5; clear s5
         have HT := Lib.hid ht; clear ht
         have HR0 := Lib.hid hr0; clear hr0
         go_wp2_with fail
         go_meet
         exact ⟨rfl,_,S1.out,S2.out,S5.out,fun q hq => by simpa [Value.ownBlock] using hq.symm,S3.out,by simp⟩
        ·have ht := HV.out.tail (by omega)
         obtain ⟨s1,s2,s3,s4⟩ := hset (.slice (some ⟨vg,vo + 1,none⟩) r.length (vc - 1))
         have s5 := s4 _ _ ht
         clear s4 hset
         rw [← HRL2.out] at s1 s2 s3 s5
         have hv2 : ¬ vc = 1 := hv1
         have S1 := Lib.hid s1; clear s1
         have S2 := Lib.hid s2; clear s2
         have S3 := Lib.hid s3; clear s3
         have S5 := Lib.hid s5; clear s5
         have HT := Lib.hid ht; clear ht
         go_wp2_with fail
         go_meet
         exact ⟨rfl,_,S1.out,S2.out,S5.out,fun q hq => by simpa [Value.ownBlock] using hq.symm,S3.out,by simp⟩
       case rest =>
        obtain ⟨rfl,v2,ho2,hr2,hv2,hvb2,hov2,hsz2⟩ := hcut
        have hszc : rb + 1 ≤ wc.heap.size := by omega
        have hvgc : vg < wc.heap.size := by omega
        clear hsz2
        obtain ⟨v',w3,hrun,hown,hg3,hat⟩ := app1 hov2 (iN : Int) (by have := HOE.out; omega) hszc 23
        have hnv : (Value.slice oA ol oc).ownBlock ≠ some vg := HVO.out vg rfl
        have hk3 := grown_kept hg3
        have ho3 := ho2.kept hk3 (fun q hq => by
         have h1 := (hov2.2.lt q (by simpa using hq)).1
         exact ⟨by omega,fun a ha e => by have := HUS.out a ha _ e; omega⟩)
        have hr3 := hk3.blk hr2 (fun hm => by have := (hov2.2.lt rb (by simpa using hm)).1; omega)
        have hv3 := hv2.keptS hk3 (fun q hq hm => by
         have := hvb2 q hq
         subst this
         exact hnv (by simpa using hm))
        have hnv3 : ∀ q,v2.ownBlock = some q → v'.ownBlock ≠ some q := fun q hq e => by
         have := hvb2 q hq
         subst this
         rcases hat q e with h | h
         ·exact hnv h
         ·omega
        have hsz3 : rb + 1 ≤ w3.heap.size := Nat.le_trans hszc hk3.size
        obtain ⟨pA,pl,pc,rfl⟩ := hown.shape
        have epl : pl = ol + 1 := by
         rcases hown.2.2 with ⟨e,h0⟩ | ⟨_,_,_,e,_⟩
         ·omega
         ·cases e; rfl
        subst epl
        have h64w : ∀ x ∈ waitU E iN,I64 x := fun x hx => by
         have h1 := HEOK.out.e _ ((wait_mem E (iN : Int) x).1 hx)
         simp only at h1
         unfold I64; omega
        have hlsi : ls iN ≤ 17592186044416 := by
         have h1 := (ho3.gr.own iN hicl).1
         have h2 := wait_len E (iN : Int)
         have h3 : (waitU E iN).length = (waitL E (iN : Int)).length := rfl
         have h4 := HELEN.out
         omega
        obtain ⟨rA,rc,hre,hrs⟩ := (ho3.gr.own iN hicl).sl hlsi h64w
        have m2 : w3.cell? ⟨wb,iN,none⟩ = some (us iN) := ho3.gr.cell hicl
        rw [hre] at m2
        obtain ⟨wl,hwl⟩ : ∃ wl,wl = ls iN := ⟨_,rfl⟩
        rw [← hwl] at m2 hre hrs
        have hrc := hrs.cap
        have hrm := hrs.max
        have hrl := hrs.len
        have i0 : (0 : Int) ≤ (iN : Int) := by omega
        have i1 : (iN : Int) < (cl : Int) := by omega
        have HO2 := Lib.hid ho2; clear ho2
        have HR2 := Lib.hid hr2; clear hr2
        have HV2 := Lib.hid hv2; clear hv2
        have HVB2 := Lib.hid hvb2; clear hvb2
        have HOV2 := Lib.hid hov2; clear hov2
        have HRUN := Lib.hid hrun; clear hrun
        have HOWN := Lib.hid hown; clear hown
        have HG3 := Lib.hid hg3; clear hg3
        have HAT := Lib.hid hat; clear hat
        have HNV := Lib.hid hnv; clear hnv
        have HK3 := Lib.hid hk3; clear hk3
        have HO3 := Lib.hid ho3; clear ho3
        have HR3 := Lib.hid hr3; clear hr3
        have HV3 := Lib.hid hv3; clear hv3
        have HNV3 := Lib.hid hnv3; clear hnv3
        have H64W := Lib.hid h64w; clear h64w
        have HRE := Lib.hid hre; clear hre
        have HRS := Lib.hid hrs; clear hrs
        have HWL := Lib.hid hwl; clear hwl
        have HRL := Lib.hid hrl; clear hrl
        go_wp2_with (at_builtin; refine wpList_append_run rfl _ _ _ rfl _ _ rfl rfl _ _ HRUN.out ?_)
        clear m2
        go_loopw [117] (fun t wr => ∃ (q : Nat) (v3 : Value),q ≤ wl ∧ t = .int .i64 (q : Int) ∧ SrS w cA cl cc w.heap.size ub nb wb B AT wr (decAll (headF cs) ((waitL E (iN : Int)).take q) (s.nd,r)).1 (waitU E) us ls ∧ Blk wr rb 23 #[v3] ∧ OwnO wr (rb + 1) v3 (decAll (headF cs) ((waitL E (iN : Int)).take q) (s.nd,r)).2 ∧ (∀ b,v3.ownBlock = some b → (Value.slice pA (ol + 1) pc).ownBlock ≠ some b) ∧ OwnI wr (rb + 1) (.slice pA (ol + 1) pc) (ol + 1) (s.ord ++ [(iN : Int)]) ∧ rb + 1 ≤ wr.heap.size) (fun t _ => wl - (intOf t).toNat)
        case atStart => exact ⟨0,v2,Nat.zero_le _,rfl,HO3.out,HR3.out,HV3.out,HNV3.out,HOWN.out,hsz3⟩
        case round =>
         obtain ⟨q,v3,hq,rfl,ho5,hr5,hv5,hnv5,hov5,hsz5⟩ := hrel
         obtain ⟨w5,rfl⟩ : ∃ w5 : World,w5 = wr := ⟨_,rfl⟩
         obtain ⟨d1,d2,d3,d4⟩ := dec_pre HEOK.out HK.out hrd q
         obtain ⟨nd5,hnd5⟩ : ∃ x,x = (decAll (headF cs) ((waitL E (iN : Int)).take q) (s.nd,r)).1 := ⟨_,rfl⟩
         obtain ⟨rd5,hrd5⟩ : ∃ x,x = (decAll (headF cs) ((waitL E (iN : Int)).take q) (s.nd,r)).2 := ⟨_,rfl⟩
         rw [← hnd5] at d1 d4 ho5
         rw [← hrd5] at d2 d3 d4 hv5
         by_cases hql : q < wl
         ·have hrs5 : SlIs intR w5 rA wl rc (waitU E iN) := by
           obtain ⟨A3,c3,e3,h3⟩ := (ho5.gr.own iN hicl).sl hlsi H64W.out
           rw [HRE.out,← HWL.out] at e3
           rw [← HWL.out] at h3
           cases e3; exact h3
          obtain ⟨kk,hkk,-⟩ := hrs5.drop hql
          obtain ⟨eb,eo,rfl,le,ce,b64⟩ := hrs5.int hkk
          obtain ⟨g0,g1,g2,g3,g4⟩ := d4 kk hkk
          obtain ⟨kn,rfl⟩ : ∃ kn : Nat,kk = (kn : Int) := ⟨kk.toNat,by omega⟩
          have hkn : kn < cl := by omega
          have hds := decAll_snoc (headF cs) ((waitL E (iN : Int)).take q) (s.nd,r) (kn : Int)
          rw [← take_snoc' (show (waitL E (iN : Int))[q]? = some (kn : Int) from hkk),← hnd5,← hrd5] at hds
          obtain ⟨z,hz⟩ : ∃ z,z = nthZ nd5 (kn : Int) := ⟨_,rfl⟩
          rw [← hz] at hds g2 g3
          have hEl := HELEN.out
          have j0 : (0 : Int) ≤ (q : Int) := by omega
          have j1 : (q : Int) < (wl : Int) := by omega
          have k0 : (0 : Int) ≤ (kn : Int) := by omega
          have k1 : (kn : Int) < (cl : Int) := by omega
          have zb : z ≤ 20000000 := by omega
          have m3 : w5.cell? ⟨nb,kn,none⟩ = some (.int .i64 z) := by rw [ho5.bn.cell,intC_at d1 hkn,hz]
          have f3 := ho5.bn.frozen kn
          have hoA := ho5.setN kn (z - 1)
          have hkA : Kept [nb] w5 (w5.setCell ⟨nb,kn,none⟩ (.int .i64 (z - 1))) := (Kept.refl _ _).set (.inl (by simp)) _
          have hlo := ho5.lo
          have hrA := hr5.far (p := ⟨nb,kn,none⟩) (show rb ≠ nb by omega) (.int .i64 (z - 1))
          have hvA := hv5.keptS hkA (fun q hq hm => by
           have e : q = nb := by simpa using hm
           subst e
           have := (hv5.lt hq).1; omega)
          have hovA := hov5.keptS hkA (fun q hq hm => by
           have e : q = nb := by simpa using hm
           subst e
           have := (hov5.2.lt _ hq).1; omega)
          have hszA : rb + 1 ≤ (w5.setCell ⟨nb,kn,none⟩ (.int .i64 (z - 1))).heap.size := by simpa [World.setCell] using hsz5
          clear hlo
          have HO5 := Lib.hid ho5; clear ho5
          have HR5 := Lib.hid hr5; clear hr5
          have HV5 := Lib.hid hv5; clear hv5
          have HNV5 := Lib.hid hnv5; clear hnv5
          have HOV5 := Lib.hid hov5; clear hov5
          have D1 := Lib.hid d1; clear d1
          have D2 := Lib.hid d2; clear d2
          have D3 := Lib.hid d3; clear d3
          have D4 := Lib.hid d4; clear d4
          have HND5 := Lib.hid hnd5; clear hnd5
          have HRD5 := Lib.hid hrd5; clear hrd5
          have HRS5 := Lib.hid hrs5; clear hrs5
          have HKK := Lib.hid hkk; clear hkk
          have HDS := Lib.hid hds; clear hds
          have HZ := Lib.hid hz; clear hz
          have G4 := Lib.hid g4; clear g4
          have HOA := Lib.hid hoA; clear hoA
          have HKA := Lib.hid hkA; clear hkA
          have HRA := Lib.hid hrA; clear hrA
          have HVA := Lib.hid hvA; clear hvA
          have HOVA := Lib.hid hovA; clear hovA
          have B64 := Lib.hid b64; clear b64
          go_upto_region 29 with fail
          clear m3 f3 ce
          generalize w5.setCell ⟨nb,kn,none⟩ (.int .i64 (z - 1)) = w6 at *
          have m4 : w6.cell? ⟨nb,kn,none⟩ = some (.int .i64 (z - 1)) := by
           rw [HOA.out.bn.cell,intC_at (by rw [updZ_len]; exact D1.out) hkn,nthZ_upd _ _ _ _ k0 k0 (by have := D1.out; omega),if_pos rfl]
          by_cases hz1 : z - 1 = 0
          ·have z1 : (z - 1 == 0) = true := by simpa using hz1
           have hds := HDS.out
           rw [if_pos hz1] at hds
           have hput := put_any rb w.heap.size cA cl cc cs v3 rd5 (rb + 1) kn w6 HRA.out HVA.out hszA (by omega) HOA.out.bc (HC.out.unfr.ext HOA.out.bel) hkn D3.out HNE.out D2.out (by have := rd_len (m := cl) D2.out D3.out; omega) (by omega)
           have hpk : ∀ q ∈ rb :: v3.ownBlock.toList,B ≤ q ∧ ∀ a,a < cl → (us a).ownBlock ≠ some q := fun q hq => by
            have hq : q = rb ∨ q ∈ v3.ownBlock.toList := by simpa using hq
            rcases hq with rfl | hq
            ·exact ⟨hBrb,fun a ha e => by have := HUS.out a ha _ e; omega⟩
            ·have h1 := (HVA.out.lt (by simpa using hq)).1
             exact ⟨by omega,fun a ha e => by have := HUS.out a ha _ e; omega⟩
           have HDS := Lib.hid hds; clear hds
           have HPUT := Lib.hid hput; clear hput
           have HPK := Lib.hid hpk; clear hpk
           go_wp2_with fail
           go_fit HPUT.out; rintro e w7 ⟨rfl,v7,hr7,hv7,hk7,hvb7⟩
           have ho7 := HOA.out.kept hk7 HPK.out
           have hov7 := HOVA.out.keptS hk7 (fun b hb hm => by
            have hm : b = rb ∨ b ∈ v3.ownBlock.toList := by simpa using hm
            rcases hm with rfl | hm
            ·have := (HOVA.out.2.lt _ hb).1; omega
            ·exact HNV5.out b (by simpa using hm) hb)
           have hnv7 : ∀ b,v7.ownBlock = some b → (Value.slice pA (ol + 1) pc).ownBlock ≠ some b := fun b hb e => by
            rcases hvb7 b hb with h | h
            ·exact HNV5.out b h e
            ·have := (HOVA.out.2.lt _ e).2; omega
           have hsz7 := Nat.le_trans hszA hk7.size
           have ho8 : SrS w cA cl cc w.heap.size ub nb wb B AT w7 (decAll (headF cs) ((waitL E (iN : Int)).take (q + 1)) (s.nd,r)).1 (waitU E) us ls := by rw [HDS.out]; exact ho7
           have hv8 : OwnO w7 (rb + 1) v7 (decAll (headF cs) ((waitL E (iN : Int)).take (q + 1)) (s.nd,r)).2 := by rw [HDS.out]; exact hv7
           have HR7 := Lib.hid hr7; clear hr7
           have HV7 := Lib.hid hv7; clear hv7
           have HK7 := Lib.hid hk7; clear hk7
           have HVB7 := Lib.hid hvb7; clear hvb7
           have HO7 := Lib.hid ho7; clear ho7
           have HOV7 := Lib.hid hov7; clear hov7
           have HNV7 := Lib.hid hnv7; clear hnv7
           have HO8 := Lib.hid ho8; clear ho8
           have HV8 := Lib.hid hv8; clear hv8
           clear m4
           go_wp2_with fail
           go_roundw
           case rel => exact ⟨q + 1,v7,by omega,by go_num,HO8.out,HR7.out,HV8.out,HNV7.out,HOV7.out,hsz7⟩
           case measure => simp [intOf]; omega
          ·have z1 : (z - 1 == 0) = false := by simpa using hz1
           have hds := HDS.out
           rw [if_neg hz1] at hds
           have ho8 : SrS w cA cl cc w.heap.size ub nb wb B AT w6 (decAll (headF cs) ((waitL E (iN : Int)).take (q + 1)) (s.nd,r)).1 (waitU E) us ls := by rw [hds]; exact HOA.out
           have hv8 : OwnO w6 (rb + 1) v3 (decAll (headF cs) ((waitL E (iN : Int)).take (q + 1)) (s.nd,r)).2 := by rw [hds]; exact HVA.out
           have HDS := Lib.hid hds; clear hds
           have HO8 := Lib.hid ho8; clear ho8
           have HV8 := Lib.hid hv8; clear hv8
           go_wp2_with fail
           go_roundw
           case rel => exact ⟨q + 1,v3,by omega,by go_num,HO8.out,HRA.out,HV8.out,HNV5.out,HOVA.out,hszA⟩
           case measure => simp [intOf]; omega
         ·have hta : (waitL E (iN : Int)).take q = waitL E (iN : Int) := List.take_of_length_le (by have := HRL.out; have h3 : (waitU E iN).length = (waitL E (iN : Int)).length := rfl; omega)
          rw [hta] at hnd5 hrd5
          have hks : kStep (headF cs) (waitL E) s = ⟨nd5,rd5,s.ord ++ [(iN : Int)]⟩ := by
           unfold kStep
           rw [hrd,hnd5,hrd5]
          have hk8 := kStep_ok HEOK.out HK.out hrd
          rw [hks] at hk8
          have hs8 : (⟨nd5,rd5,s.ord ++ [(iN : Int)]⟩ : KS) = kIter (headF cs) (waitL E) (n + 1) (kInit (headF cs) E cl) := by
           rw [kIter_succ,← HS_.out,hks]
          have hl8 : (s.ord ++ [(iN : Int)]).length = n + 1 := by rw [List.length_append,HOL.out]; rfl
          have hol8 : ol ≤ cl := by have := HOE.out; omega
          have HTA := Lib.hid hta; clear hta
          have HND5 := Lib.hid hnd5; clear hnd5
          have HRD5 := Lib.hid hrd5; clear hrd5
          have HKS := Lib.hid hks; clear hks
          have HK8 := Lib.hid hk8; clear hk8
          have HS8 := Lib.hid hs8; clear hs8
          have HL8 := Lib.hid hl8; clear hl8
          have HO5 := Lib.hid ho5; clear ho5
          have HR5 := Lib.hid hr5; clear hr5
          have HV5 := Lib.hid hv5; clear hv5
          have HNV5 := Lib.hid hnv5; clear hnv5
          have HOV5 := Lib.hid hov5; clear hov5
          have D1 := Lib.hid d1; clear d1
          have D2 := Lib.hid d2; clear d2
          have D3 := Lib.hid d3; clear d3
          have D4 := Lib.hid d4; clear d4
          go_wp2_with fail
          go_roundw
          case rel => exact ⟨n + 1,_,v3,ol + 1,HS8.out,HK8.out,HL8.out,HO5.out,HR5.out,HV5.out,HOV5.out,HNV5.out,hsz5⟩
          case measure => simp [slLen2]; omega
end Go.Proofs.YtbfbkpoakmnlpaaGreat

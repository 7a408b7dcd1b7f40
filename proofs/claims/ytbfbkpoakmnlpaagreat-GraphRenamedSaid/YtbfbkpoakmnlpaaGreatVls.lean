/- Contracts: slices.Values, slices.AppendSeq, slices.Collect and slices.Sorted over ints. -/
import Derived.Test.YtbfbkpoakmnlpaaGreatSrti
import Derived.Test.YtbfbkpoakmnlpaaGreatGZ
import Derived.OwnWalkIn
import Derived.TacticsInMore
import Derived.LoopNIn
import Derived.LoopIn
import Derived.Shelf.Abstract
import Derived.Sort.OwnSortedInts
import Derived.Shelf.Slices.In.SortNone
namespace Go.Proofs.YtbfbkpoakmnlpaaGreat
open Go.RowKit Go.Shelf
attribute [local go_sem] Oper.semAt_some
theorem sortI_any {wr : World} {base : Nat} {v : Value} {lv : Nat} {xs : List Int} (h : OwnI wr base v lv xs) (hlv : lv ≤ 17592186044416) :
  Calls Tryz.prog 38 #[v] wr fun e w' => e = .returned (.tuple #[]) ∧ OwnI w' base v lv (xs.mergeSort fun x y => decide (x ≤ y)) ∧ wr.grownBy w' v.ownBlock := by
 obtain ⟨hl,hrow⟩ := h
 have hrow2 := hrow
 rcases hrow.2 with ⟨rfl,h0⟩ | ⟨g,cap,cur,rfl,hb,hh,hlc,hcm,hcs,htk⟩
 ·have hx : xs = [] := List.eq_nil_of_length_eq_zero (by rw [← hl]; exact h0)
  subst hx
  refine (Any.slices_Sort_int_none (P := Tryz.prog) (ρ := sortI_ren) { sortI with } none 0 wr).mono ?_
  rintro e w' ⟨rfl,rfl⟩
  exact ⟨rfl,⟨by simpa using hl,by simpa using hrow2⟩,grown_refl _ _⟩
 ·subst hl
  refine (Any.slices_Sort_int (P := Tryz.prog) (ρ := sortI_ren) { sortI with } g 0 cap xs wr (holds_of_blockI hh (by simpa using htk)) (Array.getElem?_eq_some_iff.1 hh).1 (by omega)).mono ?_
  rintro e w' ⟨rfl,n,os,rfl⟩
  refine ⟨rfl,⟨by simp,?_⟩,grownBy_sortedI _⟩
  exact ownsRow_sortedI (by simp) hb hh hlc hcm hcs
def GoodI (_ : List Nat) (x : Int) (args : Array Value) (_ : World) : Prop := args = #[.int .i64 x] ∧ I64 x
set_option maxRecDepth 100000 in
set_option maxHeartbeats 1000000 in
theorem values_any (mA : Option Addr) (ml mc : Nat) (w : World) :
  Calls Tryz.prog 20 #[.slice mA ml mc] w fun e w' => e = .returned (.func (.func 39) #[] #[.pointer (some ⟨w.heap.size,0,none⟩)]) ∧ w' = w.alloc (.cells #[.slice mA ml mc] 23) := by
 go_enter Tryz.func20,Tryz.ntmps20
 go_wp2
 go_ret
 exact ⟨rfl,rfl⟩
set_option maxRecDepth 100000 in
set_option maxHeartbeats 4000000 in
theorem vals1_iter (m : Nat) (_hm : 1 ≤ m) (a : Nat) (xA : Option Addr) (xl xc : Nat) (xs : List Int) (M0 : List Nat) (w : World)
  (hres : ∀ M W,(∀ k ∈ M,k ∈ M0 ∨ w.heap.size ≤ k) → Kept M w W → W.cell? ⟨a,0,none⟩ = some (.slice xA xl xc) ∧ SlIs intR W xA xl xc xs) :
  IterM Fence.wide m Tryz.prog 39 #[.pointer (some ⟨a,0,none⟩)] GoodI xs M0 w := by
 intro l J Jx M W hJ hJx hJM hY h0 hbw hM
 refine callsIn_of_wp Tryz.func39 rfl trivial ?_ rfl
 simp only [Tryz.ntmps39,List.size_toArray,List.length_cons,List.length_nil,Nat.reduceAdd,Nat.reduceSub,Array.replicate_succ,Array.replicate_zero,List.push_toArray,List.append_toArray,List.nil_append,List.cons_append]
 obtain ⟨c0,hs0⟩ := hres M W hM (Kept.of_below hbw _)
 have hlen := hs0.len
 have hxc := hs0.cap
 have hxm := hs0.max
 have HJ' := Lib.hid hJ
 clear hJ
 have HY' := Lib.hid hY; clear hY
 have HRES := Lib.hid hres; clear hres
 have HJX := Lib.hid hJx; clear hJx
 have HJM := Lib.hid hJM; clear hJM
 have H0 := Lib.hid h0; clear h0
 have HM := Lib.hid hM; clear hM
 have HBW := Lib.hid hbw; clear hbw
 have HS0 := Lib.hid hs0; clear hs0
 have HLEN := Lib.hid hlen; clear hlen
 gi_wp2
 clear c0
 gi_loopw [7] (fun t wr => ∃ (k : Nat) (M Ms : List Nat),k ≤ xl ∧ t = .int .i64 (k : Int) ∧ J M (xs.take k) wr ∧ Kept Ms w wr ∧ (∀ q ∈ M,q ∈ Ms) ∧ (∀ q ∈ Ms,q ∈ M0 ∨ w.heap.size ≤ q)) (fun t _ => xl - (intOf t).toNat)
 case atStart => exact ⟨0,M,M,Nat.zero_le _,rfl,H0.out,Kept.of_below HBW.out _,fun _ h => h,HM.out⟩
 case round =>
  obtain ⟨k,M1,Ms,hk,rfl,hj,hkw,hsub,hM1⟩ := hrel
  obtain ⟨-,hs1⟩ := HRES.out Ms wr hM1 hkw
  by_cases hlt : k < xl
  ·have k0 : (0 : Int) ≤ (k : Int) := by omega
   have k1 : (k : Int) < (xl : Int) := by omega
   obtain ⟨x,hx,-⟩ := hs1.drop hlt
   obtain ⟨xb,xo,rfl,lx,cx,x64⟩ := hs1.int hx
   have htk : xs.take k ++ [x] = xs.take (k + 1) := (take_snoc' hx).symm
   have hgd : GoodI M1 x #[.int .i64 x] wr := ⟨rfl,x64⟩
   obtain ⟨fn,tmps,assign,body,hyy,hRd⟩ := HY'.out M1 _ _ _ _ hj (by rw [htk]; exact List.take_prefix _ _) hgd
   have HJ := Lib.hid hj; clear hj
   have HKW := Lib.hid hkw; clear hkw
   have HSUB := Lib.hid hsub; clear hsub
   have HM1 := Lib.hid hM1; clear hM1
   have HS1 := Lib.hid hs1; clear hs1
   have HX := Lib.hid hx; clear hx
   have X64 := Lib.hid x64; clear x64
   have HGD := Lib.hid hgd; clear hgd
   gi_wp2_with fail
   refine hRd.mono ?_
   rintro e W4 (⟨rfl,M2,hj4,hk4,hm4⟩ | ⟨rfl,hjx⟩)
   ·rw [htk] at hj4
    have hw4 : Kept (Ms ++ M2) w W4 := (HKW.out.more (fun q hq => by simp [hq])).trans (hk4.more (fun q hq => by simp [HSUB.out q hq]))
    have hc4 : ∀ q ∈ Ms ++ M2,q ∈ M0 ∨ w.heap.size ≤ q := fun q hq => by
     rcases List.mem_append.1 hq with h | h
     ·exact HM1.out q h
     ·rcases hm4 q h with h | h
      ·exact HM1.out q (HSUB.out q h)
      ·exact .inr (Nat.le_trans HKW.out.size h)
    have HJ4 := Lib.hid hj4; clear hj4
    have HK4 := Lib.hid hk4; clear hk4
    have HM4 := Lib.hid hm4; clear hm4
    have HW4 := Lib.hid hw4; clear hw4
    have HC4 := Lib.hid hc4; clear hc4
    have HTK := Lib.hid htk; clear htk
    gi_wp2_with fail
    go_roundw
    case rel => exact ⟨k + 1,M2,Ms ++ M2,by omega,by go_num,HJ4.out,HW4.out,fun q hq => by simp [hq],HC4.out⟩
    case measure => simp [intOf]; omega
   ·have HJX' := Lib.hid hjx; clear hjx
    have HTK := Lib.hid htk; clear htk
    gi_wp2_with fail
    refine bodyPost_ret (results_none rfl _ _ _) rfl ?_
    exact ⟨⟨_,rfl⟩,.inr ⟨_,by rw [HTK.out]; exact List.take_prefix _ _,HJX'.out⟩⟩
  ·have k1 : ¬ (k : Int) < (xl : Int) := by omega
   have hall : xs.take k = xs := List.take_of_length_le (by rw [← HLEN.out]; omega)
   rw [hall] at hj
   have HJ := Lib.hid hj; clear hj
   have HKW := Lib.hid hkw; clear hkw
   have HSUB := Lib.hid hsub; clear hsub
   have HM1 := Lib.hid hM1; clear hM1
   have HS1 := Lib.hid hs1; clear hs1
   have HALL := Lib.hid hall; clear hall
   gi_wp2_with fail
   go_end0
   exact ⟨⟨_,rfl⟩,.inl ⟨M1,HJ.out⟩⟩
def SeqI (w : World) (M : List Nat) (pre : List Int) (W : World) : Prop := ∃ v,M = w.heap.size :: v.ownBlock.toList ∧ Blk W w.heap.size 23 #[v] ∧ OwnI W (w.heap.size + 1) v pre.length pre ∧ (∀ x ∈ pre,I64 x) ∧ Below w.heap.size w W
theorem ownI_keptS {W W' : World} {base : Nat} {v : Value} {l : Nat} {xs : List Int} {S : List Nat} (h : OwnI W base v l xs) (hk : Kept S W W') (hne : ∀ k,v.ownBlock = some k → k ∉ S) : OwnI W' base v l xs := ⟨h.1,ownsRow_keptS h.2 hk hne⟩
theorem ownI_blk {W : World} {base : Nat} {v : Value} {l : Nat} {xs : List Int} (h : OwnI W base v l xs) {k : Nat} (hv : v.ownBlock = some k) : ∃ cs : Array Value,W.heap[k]? = some (.cells cs 3 (0,0)) := by
 rcases h.2.2 with ⟨rfl,_⟩ | ⟨g,cap,cur,rfl,_,hh,_⟩
 ·simp [Value.ownBlock] at hv
 ·have e : g = k := by simpa [Value.ownBlock] using hv
  subst e
  exact ⟨cur,hh⟩
theorem SeqI.bel {w : World} {M : List Nat} {pre : List Int} {A B : World} (h : SeqI w M pre A) (hb : Below A.heap.size A B) : SeqI w M pre B := by
 obtain ⟨v,e,h1,h2,h4,h3⟩ := h
 exact ⟨v,e,h1.bel hb,h2.bel hb,h4,bel_trans h3 hb⟩
theorem SeqI.keep {w : World} {M : List Nat} {pre : List Int} {A B : World} {k : Nat} (hw : w.heap.size ≤ k) (h : SeqI w M pre A) (hn : ∀ o,A.heap[k]? = some o → o.isCells = false) (hk : Kept [k] A B) : SeqI w M pre B := by
 obtain ⟨v,e,h1,h2,h4,h3⟩ := h
 refine ⟨v,e,(hk.blk h1 (by have := blk_ne h1 hn; simp; omega)),ownI_keptS h2 hk (fun q hq hm => ?_),h4,Kept.below h3 hk h3.size (fun q hq => by simp at hq; omega)⟩
 simp at hm; subst hm
 obtain ⟨cs,hc⟩ := ownI_blk h2 hq
 have := hn _ hc
 cases this
set_option maxRecDepth 100000 in
set_option maxHeartbeats 4000000 in
theorem appendSeq_any (a : Nat) (xA : Option Addr) (xl xc : Nat) (xs : List Int) (w : World) (hc : w.cell? ⟨a,0,none⟩ = some (.slice xA xl xc)) (hs : SlIs intR w xA xl xc xs) :
  Calls Tryz.prog 63 #[.slice none 0 0,.func (.func 39) #[] #[.pointer (some ⟨a,0,none⟩)]] w fun e w' => ∃ v,e = .returned v ∧ OwnI w' (w.heap.size + 1) v xs.length xs ∧ (∀ x ∈ xs,I64 x) ∧ Below w.heap.size w w' := by
 have hal : a < w.heap.size := World.block_lt_of_cell? _ _ hc
 have hbig := hs.small
 have hlen := hs.len
 refine (callsIn_wide (n := 5)).1 ?_
 refine callsIn_of_wp_marks Tryz.func63 rfl trivial ?_ rfl
 simp only [Tryz.ntmps63,List.size_toArray,List.length_cons,List.length_nil,Nat.reduceAdd,Nat.reduceSub,Array.replicate_succ,Array.replicate_zero,List.push_toArray,List.append_toArray,List.nil_append,List.cons_append]
 have HS := Lib.hid hs; clear hs
 have HLEN := Lib.hid hlen; clear hlen
 have HC := Lib.hid hc; clear hc
 gi_wp2_with fail
 have hW : Blk (w.alloc (.cells #[.slice none 0 0] 23)) w.heap.size 23 #[.slice none 0 0] ∧ Below w.heap.size w (w.alloc (.cells #[.slice none 0 0] 23)) ∧ (w.alloc (.cells #[.slice none 0 0] 23)).heap.size = w.heap.size + 1 := ⟨blk_new rfl _ _,bel_alloc _ _,by simp⟩
 generalize (w.alloc (.cells #[.slice none 0 0] 23)) = W1 at *
 obtain ⟨e1,e2,e3⟩ := hW
 refine wpIn_rangeM rfl (by omega) (gf := 39) (lb := #[.pointer (some ⟨a,0,none⟩)]) rfl trivial (enters_of Tryz.func39 (by kernel_rfl) rfl)
  (vals1_iter 4 (by omega) a xA xl xc xs [w.heap.size] W1
   (fun M W hM hk => by
    have hoff : ∀ q ∈ M,w.heap.size ≤ q := fun q hq => by
     rcases hM q hq with h | h
     ·simp at h; omega
     ·omega
    exact ⟨hk.cell ((e2.cell hal).trans HC.out) (fun hq => by have := hoff _ hq; simp at this; omega),(HS.out.ext e2).keptM hk (fun h0 ad e hq => by
     have h1 := HS.out.blk_lt h0 e
     have := hoff _ hq
     omega)⟩))
  (fun _ _ _ _ h => by rw [h.1]; rfl) (fun _ _ _ _ _ _ h _ _ => h) (SeqI w) (fun _ _ _ => False)
  (fun _ _ _ _ h hb => h.bel hb) (fun _ _ _ _ h _ => h) (fun _ _ _ _ _ hk0 h hn hk => h.keep (by omega) hn hk) (fun _ _ _ _ _ _ h _ _ => h)
  (fun M pre W h k hk => by
   obtain ⟨v,rfl,h1,h2,_⟩ := h
   rcases List.mem_cons.1 hk with rfl | hk
   ·exact ⟨_,h1,rfl⟩
   ·obtain ⟨cs,hc⟩ := ownI_blk h2 (by simpa using hk)
    exact ⟨_,hc,rfl⟩)
  ⟨.slice none 0 0,rfl,e1,OwnI.nil _ _,by simp,e2⟩
  (fun x args a' W => args = #[.int .i64 x] ∧ a' = { tmps := #[.slice none 0 0,.func (.func 39) #[] #[.pointer (some ⟨a,0,none⟩)],.pointer (some ⟨w.heap.size,0,none⟩),undef,.slice none 0 0,.int .i64 x,.func (.func 39) #[] #[.pointer (some ⟨a,0,none⟩)],.int .i64 x,undef,undef,undef,undef,undef],defers := [] })
  (fun _ _ _ _ _ _ h _ _ => h)
  ?assign ?body ?done ?stop
 case assign =>
  intro l M pre x args W K hi hg hK
  obtain ⟨rfl,h64⟩ := hg
  have HI := Lib.hid hi; clear hi
  have H64 := Lib.hid h64; clear h64
  have E1 := Lib.hid e1; clear e1
  have E2 := Lib.hid e2; clear e2
  have E3 := Lib.hid e3; clear e3
  gi_wp2
  exact hK _ _ (Below.refl _ _) ⟨trivial,rfl⟩
 case body =>
  rintro l M pre x args a' W ⟨v,rfl,h1,h2,h4,h3⟩ hpf ⟨rfl,h64⟩ ⟨-,rfl⟩
  have hpl : pre.length < xl := by
   have := hpf.length_le
   rw [List.length_append,HLEN.out.symm] at this
   simp at this; omega
  have k0 : W.cell? ⟨w.heap.size,0,none⟩ = some v := h1.cell 0
  obtain ⟨v',w3,hrun,hown3,hg3,hat3⟩ := app1 h2 x (by omega) (by have := h1.lt; omega) 23
  have h6 : ∀ y ∈ pre ++ [x],I64 y := fun y hy => by
   rcases List.mem_append.1 hy with h | h
   ·exact h4 y h
   ·simp at h; subst h; exact h64
  obtain ⟨vA,vc,rfl,-⟩ := hown3.sl (by omega) h6
  have hd3 : Blk w3 w.heap.size 23 #[v] := (hg3.block _ h1.lt (fun e => by have := (h2.2.lt _ e.symm).1; omega)).trans h1
  have k3 : w3.frozen? ⟨w.heap.size,0,none⟩ = false := hd3.frozen 0
  have hd4 : Blk (w3.setCell ⟨w.heap.size,0,none⟩ (.slice vA (pre.length + 1) vc)) w.heap.size 23 #[.slice vA (pre.length + 1) vc] := hd3.set_ 0 _
  have kA : Kept (w.heap.size :: v.ownBlock.toList) W w3 := (Kept.refl _ W).grown hg3 (fun q hq => .inl (List.mem_cons_of_mem _ (by simp [hq])))
  have kB : Kept (w.heap.size :: v.ownBlock.toList) W (w3.setCell ⟨w.heap.size,0,none⟩ (.slice vA (pre.length + 1) vc)) := kA.set (.inl (by simp)) _
  have kC : Kept [w.heap.size] w3 (w3.setCell ⟨w.heap.size,0,none⟩ (.slice vA (pre.length + 1) vc)) := (Kept.refl _ _).set (.inl (by simp)) _
  have hown4 := ownI_keptS hown3 kC (fun q hq hm => by simp at hm; subst hm; have := (hown3.2.lt _ hq).1; omega)
  have hbf := Kept.below h3 kB h3.size (fun q hq => by
   rcases List.mem_cons.1 hq with rfl | hq
   ·exact Nat.le_refl _
   ·have := (h2.2.lt q (by simpa using hq)).1; omega)
  have hc3 : w3.cell? ⟨w.heap.size,0,none⟩ = some v := hd3.cell 0
  have hsz := h1.lt
  have H1 := Lib.hid h1; clear h1
  have H2 := Lib.hid h2; clear h2
  have H3 := Lib.hid h3; clear h3
  have H4 := Lib.hid h4; clear h4
  have HPF := Lib.hid hpf; clear hpf
  have H64 := Lib.hid h64; clear h64
  have E1 := Lib.hid e1; clear e1
  have E2 := Lib.hid e2; clear e2
  have E3 := Lib.hid e3; clear e3
  have HRUN := Lib.hid hrun; clear hrun
  have HOWN3 := Lib.hid hown3; clear hown3
  have HG3 := Lib.hid hg3; clear hg3
  have HAT3 := Lib.hid hat3; clear hat3
  have HD3 := Lib.hid hd3; clear hd3
  have HD4 := Lib.hid hd4; clear hd4
  have KA := Lib.hid kA; clear kA
  have KB := Lib.hid kB; clear kB
  have KC := Lib.hid kC; clear kC
  have HOWN4 := Lib.hid hown4; clear hown4
  have HBF := Lib.hid hbf; clear hbf
  have H6 := Lib.hid h6; clear h6
  gi_wp2_with (refine wpListIn_append_run rfl _ _ _ rfl _ _ rfl rfl _ _ HRUN.out ?_)
  refine ⟨_,⟨_,rfl,HD4.out,by rw [List.length_append]; exact HOWN4.out,H6.out,HBF.out⟩,KB.out,fun k hk => ?_⟩
  ·rcases List.mem_cons.1 hk with rfl | hk
   ·exact .inl (by simp)
   ·rcases HAT3.out k (by simpa using hk) with h | h
    ·exact .inl (List.mem_cons_of_mem _ (by simpa using h))
    ·exact .inr h
 case done =>
  intro D M W hD hi hdf
  obtain ⟨v,rfl,h1,h2,h4,h3⟩ := hi
  have hn : ∀ o,W.heap[D]? = some o → o.isCells = false := fun o h => by rw [hdf] at h; cases h; rfl
  have k2 : W.cell? ⟨w.heap.size,0,none⟩ = some v := h1.cell 0
  have hkD := kept_putObj W D (.deferred none)
  have ho2 := ownI_keptS h2 hkD (fun q hq hm => by
   simp at hm; subst hm
   obtain ⟨cs,hc⟩ := ownI_blk h2 hq
   have := hn _ hc
   cases this)
  have hbf := Kept.below h3 hkD h3.size (fun q hq => by simp at hq; omega)
  have H1 := Lib.hid h1; clear h1
  have H2 := Lib.hid h2; clear h2
  have H3 := Lib.hid h3; clear h3
  have H4 := Lib.hid h4; clear h4
  have HN := Lib.hid hn; clear hn
  have E1 := Lib.hid e1; clear e1
  have E2 := Lib.hid e2; clear e2
  have E3 := Lib.hid e3; clear e3
  have HKD := Lib.hid hkD; clear hkD
  have HO2 := Lib.hid ho2; clear ho2
  have HBF := Lib.hid hbf; clear hbf
  have HDF := Lib.hid hdf
  clear hdf
  gi_wp2_with fail
  refine ⟨by simp,.inl ⟨_,_,rfl,run_takeDeferred HDF.out,?_⟩⟩
  exact ⟨_,results_tmp (t := 4) rfl _ _ _,_,rfl,HO2.out,H4.out,HBF.out⟩
 case stop =>
  intro D c pre W hD hpre hx hdf
  exact hx.elim
set_option maxRecDepth 100000 in
set_option maxHeartbeats 1000000 in
theorem collect_any (a : Nat) (xA : Option Addr) (xl xc : Nat) (xs : List Int) (w : World) (hc : w.cell? ⟨a,0,none⟩ = some (.slice xA xl xc)) (hs : SlIs intR w xA xl xc xs) :
  Calls Tryz.prog 37 #[.func (.func 39) #[] #[.pointer (some ⟨a,0,none⟩)]] w fun e w' => ∃ v,e = .returned v ∧ OwnI w' (w.heap.size + 1) v xs.length xs ∧ (∀ x ∈ xs,I64 x) ∧ Below w.heap.size w w' := by
 have HC := Lib.hid hc; clear hc
 have HS := Lib.hid hs; clear hs
 go_enter Tryz.func37,Tryz.ntmps37
 go_wp2_with fail
 go_fit (appendSeq_any a xA xl xc xs w HC.out HS.out); rintro e w1 ⟨v,rfl,ho,h64,hb⟩
 have HO := Lib.hid ho; clear ho
 have H64 := Lib.hid h64; clear h64
 have HB := Lib.hid hb; clear hb
 go_wp2_with fail
 go_ret
 exact ⟨_,rfl,HO.out,H64.out,HB.out⟩
set_option maxRecDepth 100000 in
set_option maxHeartbeats 1000000 in
theorem sortedSeq_any (a : Nat) (xA : Option Addr) (xl xc : Nat) (xs : List Int) (w : World) (hc : w.cell? ⟨a,0,none⟩ = some (.slice xA xl xc)) (hs : SlIs intR w xA xl xc xs) :
  Calls Tryz.prog 19 #[.func (.func 39) #[] #[.pointer (some ⟨a,0,none⟩)]] w fun e w' => ∃ A c,e = .returned (.slice A xl c) ∧ SlIs intR w' A xl c (xs.mergeSort fun x y => decide (x ≤ y)) ∧ Below w.heap.size w w' := by
 have hlen := hs.len
 have hbig := hs.small
 have HC := Lib.hid hc; clear hc
 have HS := Lib.hid hs; clear hs
 have HLEN := Lib.hid hlen; clear hlen
 go_enter Tryz.func19,Tryz.ntmps19
 go_wp2_with fail
 go_fit (collect_any a xA xl xc xs w HC.out HS.out); rintro e w1 ⟨v,rfl,ho,h64,hb⟩
 rw [← HLEN.out] at ho
 have HO := Lib.hid ho; clear ho
 have H64 := Lib.hid h64; clear h64
 have HB := Lib.hid hb; clear hb
 go_wp2_with fail
 go_fit (sortI_any HO.out (by omega)); rintro e w2 ⟨rfl,ho2,hg2⟩
 obtain ⟨A,c,rfl,hs2⟩ := ho2.sl (by omega) (fun x hx => H64.out x ((List.mergeSort_perm xs _).mem_iff.1 hx))
 have hb2 := bel_grown HB.out hg2 HB.out.size (fun q hq => by have := (HO.out.2.lt q hq).1; omega)
 have HO2 := Lib.hid ho2; clear ho2
 have HG2 := Lib.hid hg2; clear hg2
 have HS2 := Lib.hid hs2; clear hs2
 have HB2 := Lib.hid hb2; clear hb2
 go_wp2_with fail
 go_ret
 exact ⟨A,c,rfl,HS2.out,HB2.out⟩
end Go.Proofs.YtbfbkpoakmnlpaaGreat

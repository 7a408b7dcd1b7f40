/- Contract: gprog.Rename. Printed by mkren.py. -/
import Derived.Test.YtbfbkpoakmnlpaaGreatGM
import Derived.Test.YtbfbkpoakmnlpaaGreatGN
import Derived.Test.YtbfbkpoakmnlpaaGreatVls
namespace Go.Proofs.YtbfbkpoakmnlpaaGreat
open Go.RowKit Go.Shelf
theorem blk_apart {W : World} {g k : Nat} {t t' : TypeId} {cs cs' : Array Value} (h : Blk W g t cs) (h' : Blk W k t' cs') (ht : t ≠ t') : g ≠ k := fun e => by
 subst e
 unfold Blk at h h'
 rw [h] at h'
 injection h' with h'
 injection h' with _ h'
 exact ht h'
theorem perm_sorted {pm : List Int} {n : Int} {N : Nat} (h : PermOf pm n) (hN : n = (N : Int)) : (pm.mergeSort fun x y => decide (x ≤ y)) = atomsL N := by
 have hp := (List.mergeSort_perm pm fun x y => decide (x ≤ y)).trans h.2
 have hs : (pm.mergeSort fun x y => decide (x ≤ y)).Pairwise fun x y => decide (x ≤ y) = true := List.pairwise_mergeSort (fun a b c h1 h2 => by simp at h1 h2 ⊢; omega) (fun a b => by simp; omega) pm
 have hn : (pm.mergeSort fun x y => decide (x ≤ y)).Nodup := hp.nodup_iff.2 (pair_nodup2 (atoms_pair _))
 rw [show N = n.toNat by omega]
 refine inc_ext ?_ (atoms_pair _) fun x => hp.mem_iff
 refine (hs.and (List.nodup_iff_pairwise_ne.1 hn)).imp fun {a b} hab => ?_
 have := of_decide_eq_true hab.1
 have := hab.2
 omega
theorem mvNgo_len : ∀ (qs : List Int) (ss acc : List ByteArray),(mvNgo qs ss acc).length = acc.length
 | [],_,_ => by simp [mvNgo]
 | _ :: _,[],_ => by simp [mvNgo]
 | q :: qs,s :: ss,acc => by
  show (mvNgo qs ss (acc.set (q - 1).toNat s)).length = _
  rw [mvNgo_len,List.length_set]
theorem mvNgo_snoc : ∀ {i : Nat} {qs : List Int} {ss : List ByteArray} {q : Int} {s : ByteArray},qs[i]? = some q → ss[i]? = some s → ∀ acc : List ByteArray,mvNgo (qs.take (i + 1)) (ss.take (i + 1)) acc = (mvNgo (qs.take i) (ss.take i) acc).set (q - 1).toNat s
 | _,[],_,_,_,h,_,_ => by simp at h
 | _,_ :: _,[],_,_,_,h,_ => by simp at h
 | 0,x :: qs,y :: ss,q,s,h,h',acc => by
  simp at h h'
  subst h; subst h'
  simp [mvNgo]
 | i + 1,x :: qs,y :: ss,q,s,h,h',acc => by
  have := mvNgo_snoc (i := i) (qs := qs) (ss := ss) (by simpa using h) (by simpa using h') (acc.set (x - 1).toNat y)
  simpa [mvNgo] using this
theorem made_str {n i : Nat} {x : ByteArray} {V : World} (hx : (List.replicate n ByteArray.empty)[i]? = some x) : strR.is V (((Array.replicate n (Value.string ByteArray.empty)).toList.drop (i * strR.size)).take strR.size) x := by
 rw [List.getElem?_replicate] at hx
 split at hx
 ·injection hx with hx
  subst hx
  refine ⟨?_,by decide⟩
  show ((Array.replicate n (Value.string ByteArray.empty)).toList.drop (i * 1)).take 1 = _
  rw [Array.toList_replicate,List.drop_replicate,List.take_replicate,show min 1 (n - i * 1) = 1 by omega]; rfl
 ·cases hx
set_option maxRecDepth 100000 in
set_option maxHeartbeats 8000000 in
theorem rename_any (p : GProg) (nA : Option Addr) (nl nc : Nat) (sA : Option Addr) (sl sc : Nat) (rA : Option Addr) (rl rc : Nat) (mA : Option Addr) (ml mc : Nat) (qA : Option Addr) (ql qc : Nat) (pm : List Int) (w : World) (hp : ProgIn w p nA nl nc sA sl sc rA rl rc mA ml mc) (hv : validE p = 0) (hq : SlIs intR w qA ql qc pm) (hpm : PermOf pm p.n) :
  Calls Tryz.prog 6 #[.agg #[.int .i64 p.n,.slice nA nl nc,.slice sA sl sc,.slice rA rl rc,.slice mA ml mc],.slice qA ql qc] w fun e w' => ∃ (nA' : Option Addr) (nl' nc' : Nat) (sA' : Option Addr) (sl' sc' : Nat) (rA' : Option Addr) (rl' rc' : Nat) (mA' : Option Addr) (ml' mc' : Nat),
   e = .returned (.tuple #[.agg #[.int .i64 p.n,.slice nA' nl' nc',.slice sA' sl' sc',.slice rA' rl' rc',.slice mA' ml' mc'],.int .i64 0]) ∧ ProgIn w' (renP pm p) nA' nl' nc' sA' sl' sc' rA' rl' rc' mA' ml' mc' ∧ Below w.heap.size w w' := by
 have hn0 := valid_n hv
 have hn1 := (valid_ok hv).2.2
 have his := validE_is hv
 have cV := fun W (hb : Below w.heap.size w W) => valid_any p nA nl nc sA sl sc rA rl rc mA ml mc W (hp.ext hb)
 rw [hv] at cV
 have hql := hq.len
 have hpl := hpm.len
 have hnl := hp.names.len
 have hrl := hp.rules.len
 have hrf := his.few
 have hmn := hp.min.len
 have hmf := his.mins
 have hr40 : rl ≤ 40000 := by omega
 have hm8 : ml ≤ 8 := by omega
 have hsi : incB p.n p.shown = true := by
  have h1 := his.named
  unfold namedB at h1
  simp only [Bool.and_eq_true,decide_eq_true_eq] at h1
  exact h1.1.2
 have hnn : (p.names.length : Int) = p.n := by
  have h1 := his.named
  unfold namedB at h1
  simp only [Bool.and_eq_true,decide_eq_true_eq] at h1
  exact h1.1.1.2
 obtain rfl : ql = nl := by omega
 have hN : p.n = (ql : Int) := by omega
 have hqc := hq.cap
 have hqm := hq.max
 have hnc := hp.names.cap
 have hnm := hp.names.max
 have hsc := hp.shown.cap
 have hsm := hp.shown.max
 have hrc := hp.rules.cap
 have hrm := hp.rules.max
 have hmc := hp.min.cap
 have hmm := hp.min.max
 rw [hN]
 rw [hN] at cV
 obtain ⟨W0,hW0⟩ : ∃ W0,W0 = (((w.alloc (.cells #[.int .i64 (ql : Int),.slice nA ql nc,.slice sA sl sc,.slice rA rl rc,.slice mA ml mc] 27)).alloc (.cells #[.slice qA ql qc] 23)).alloc (.cells #[.int .i64 0,.slice none 0 0,.slice none 0 0,.slice none 0 0,.slice none 0 0] 27)) := ⟨_,rfl⟩
 have hW : Blk W0 w.heap.size 27 #[.int .i64 (ql : Int),.slice nA ql nc,.slice sA sl sc,.slice rA rl rc,.slice mA ml mc] ∧ Blk W0 (w.heap.size + 1) 23 #[.slice qA ql qc] ∧ Blk W0 (w.heap.size + 1 + 1) 27 #[.int .i64 0,.slice none 0 0,.slice none 0 0,.slice none 0 0,.slice none 0 0] ∧ Below w.heap.size w W0 ∧ W0.heap.size = w.heap.size + 3 := by
  rw [hW0]
  exact ⟨((blk_new rfl _ _).alloc _).alloc _,(blk_new (by simp) _ _).alloc _,blk_new (by simp) _ _,bel_trans (bel_trans (bel_alloc _ _) (bel_alloc _ _)) (bel_alloc _ _),by simp⟩
 obtain ⟨bP,bQ,bZ,bW,hs0⟩ := hW
 have hq4 : ql ≤ 4000 := by omega
 have HP := Lib.hid hp; clear hp
 have HV := Lib.hid hv; clear hv
 have HIS := Lib.hid his; clear his
 have HSI := Lib.hid hsi; clear hsi
 have HQ := Lib.hid hq; clear hq
 have HPM := Lib.hid hpm; clear hpm
 have CV := Lib.hid cV; clear cV
 have HQL := Lib.hid hql; clear hql
 have HPL := Lib.hid hpl; clear hpl
 have HNL := Lib.hid hnl; clear hnl
 have HNN := Lib.hid hnn; clear hnn
 have HRL := Lib.hid hrl; clear hrl
 have HRF := Lib.hid hrf; clear hrf
 have HMN := Lib.hid hmn; clear hmn
 have HMF := Lib.hid hmf; clear hmf
 have HN := Lib.hid hN; clear hN
 have BP := Lib.hid bP; clear bP
 have BQ := Lib.hid bQ; clear bQ
 have BZ := Lib.hid bZ; clear bZ
 have BW := Lib.hid bW; clear bW
 have HS0 := Lib.hid hs0; clear hs0
 go_enter Tryz.func6,Tryz.ntmps6
 go_wp2_with fail
 rw [← hW0]
 clear hW0
 go_fit (CV.out _ BW.out); rintro e w1 ⟨rfl,hb1⟩
 have hbw1 := bel_trans BW.out hb1
 have bq1 := BQ.out.bel hb1
 have bp1 := BP.out.bel hb1
 have q0 := bq1.cell 0
 have HB1 := Lib.hid hb1; clear hb1
 have HBW1 := Lib.hid hbw1; clear hbw1
 have BQ1 := Lib.hid bq1; clear bq1
 have BP1 := Lib.hid bp1; clear bp1
 go_wp2_with fail
 go_fit (values_any qA ql qc w1); rintro e w2 ⟨rfl,rfl⟩
 have ha1 := bel_alloc w1 (.cells #[.slice qA ql qc] 23)
 have hc1 : (w1.alloc (.cells #[.slice qA ql qc] 23)).cell? ⟨w1.heap.size,0,none⟩ = some (.slice qA ql qc) := (blk_new rfl _ _).cell 0
 clear q0
 have HA1 := Lib.hid ha1; clear ha1
 have HC1 := Lib.hid hc1; clear hc1
 go_wp2_with fail
 go_fit (sortedSeq_any w1.heap.size qA ql qc pm _ HC1.out (HQ.out.ext (bel_trans HBW1.out HA1.out))); rintro e w3 ⟨A,c,rfl,hs3,hb3⟩
 have hsrt : (pm.mergeSort fun x y => decide (x ≤ y)) = atomsL ql := perm_sorted HPM.out HN.out
 rw [hsrt] at hs3
 have hbw3 := bel_trans (bel_trans HBW1.out HA1.out) hb3
 have bq3 := (BQ1.out.bel HA1.out).bel hb3
 have bp3 := (BP1.out.bel HA1.out).bel hb3
 have bz3 := ((BZ.out.bel HB1.out).bel HA1.out).bel hb3
 have hsc3 := hs3.cap
 have hsm3 := hs3.max
 have q1 := bq3.cell 0
 have q2 := bp3.cell 0
 clear hb3
 have HS3 := Lib.hid hs3; clear hs3
 have HBW3 := Lib.hid hbw3; clear hbw3
 have BQ3 := Lib.hid bq3; clear bq3
 have BP3 := Lib.hid bp3; clear bp3
 have BZ3 := Lib.hid bz3; clear bz3
 have HSRT := Lib.hid hsrt; clear hsrt
 go_wp2_with fail
 go_loop [33] (fun t => ∃ (k : Nat),k ≤ ql ∧ t = .int .i64 (k : Int)) (fun t => ql - (intOf t).toNat)
 case atStart => exact ⟨0,Nat.zero_le _,rfl⟩
 case round =>
  obtain ⟨k,hk,rfl⟩ := hrel
  by_cases hlt : k < ql
  ·obtain ⟨x,hx,-⟩ := HS3.out.drop hlt
   obtain ⟨b,off,rfl,_,cx,_⟩ := HS3.out.int hx
   have k0 : (0 : Int) ≤ (k : Int) := by omega
   have k1 : (k : Int) < (ql : Int) := by omega
   have hxk : x = (k : Int) + 1 := by
    unfold atomsL at hx
    rw [List.getElem?_map,List.getElem?_range hlt] at hx
    simpa using hx.symm
   subst hxk
   have z1 : IntKind.i64.wrap ((k : Int) + 1) = (k : Int) + 1 := IntWalk.i64_in _ (by omega)
   have HX := Lib.hid hx; clear hx
   go_wp2_with fail
   go_round
   case rel => exact ⟨k + 1,by omega,by go_num⟩
   case measure => simp [intOf]; omega
  ·have hkq : ql = k := by omega
   subst hkq
   go_wp2_with fail
   clear q1 q2
   obtain ⟨X,rfl⟩ : ∃ X : World,X = w3 := ⟨_,rfl⟩
   have BPX := BP3
   refine wp_region_inv (fun listed a' w' => ∃ (b0 b1 b2 b3 b4 b5 b6 b7 : Bool) (u11 u51 u52 u53 u54 u55 u56 : Value),listed = #[b0,b1,b2,b3,b4,b5,b6,b7] ∧ a' = { tmps := #[.agg #[.int .i64 (ql : Int),.slice nA ql nc,.slice sA sl sc,.slice rA rl rc,.slice mA ml mc],.slice qA ql qc,.pointer (some ⟨w.heap.size,0,none⟩),.pointer (some ⟨w.heap.size + 1,0,none⟩),.pointer (some ⟨w.heap.size + 1 + 1,0,none⟩),u5,.int .i64 0,.slice A ql c,u8,u9,Value.func (Fn.func 21) #[] #[.pointer (some ⟨w.heap.size + 1,0,none⟩)],u11,undef,undef,undef,undef,undef,undef,undef,undef,undef,undef,.agg #[.int .i64 (ql : Int),.slice nA ql nc,.slice sA sl sc,.slice rA rl rc,.slice mA ml mc],.int .i64 0,.int .i64 0,.bool false,undef,undef,.slice qA ql qc,Value.func (Fn.func 39) #[] #[.pointer (some ⟨w1.heap.size,0,none⟩)],.slice A ql c,.slice A ql c,.int .i64 (ql : Int),.int .i64 (ql : Int),.bool false,u35,u36,u37,u38,u39,u40,u41,u42,u43,.slice qA ql qc,.int .i64 (ql : Int),.pointer (some ⟨w.heap.size,0,none⟩),.int .i64 (ql : Int),.bool false,undef,Value.func (Fn.func 21) #[] #[.pointer (some ⟨w.heap.size + 1,0,none⟩)],u51,u52,u53,u54,u55,u56,undef,undef,undef,undef,undef,undef,undef,undef,undef,undef,undef,undef,undef,undef,undef,undef,undef,undef,undef,undef,undef,undef,undef,undef,undef,undef,undef,undef,undef,undef,undef,undef,undef,undef,undef,undef,undef,undef,undef,undef,undef,undef,undef,undef,undef,undef,undef,undef,undef,undef,undef,undef,undef,undef,undef,undef,undef,undef,undef,undef,undef,undef,undef,undef,undef,undef,undef,undef,undef,undef,undef,undef,undef,undef,undef,undef,undef,undef,undef,undef,undef,undef,undef,undef,undef,undef,undef,undef,undef,undef,undef],defers := [] } ∧ (Kept [] X w') ∧ (b0 = true → u51 = .pointer (some ⟨w.heap.size,0,none⟩)) ∧ (b1 = true → u52 = .int .i64 (ql : Int)) ∧ (b2 = true → u53 = .pointer (some ⟨w.heap.size,0,none⟩)) ∧ (b3 = true → u54 = .int .i64 (ql : Int)) ∧ (b4 = true → ∃ k,u55 = .slice (some ⟨k,0,none⟩) ql ql ∧ X.heap.size ≤ k ∧ Blk w' k 9 (Array.replicate ql (.string ByteArray.empty))) ∧ (b5 = true → ∃ k,u56 = .agg #[.int .i64 (ql : Int),.slice (some ⟨k,0,none⟩) ql ql,.slice none 0 0,.slice none 0 0,.slice none 0 0] ∧ X.heap.size ≤ k ∧ Blk w' k 9 (Array.replicate ql (.string ByteArray.empty))) ∧ (b6 = true → ∃ g cs,u11 = .pointer (some ⟨g,0,none⟩) ∧ X.heap.size ≤ g ∧ cs.size = 5 ∧ Blk w' g 27 cs) ∧ (b7 = true → b6 = true ∧ ∃ g k,u11 = .pointer (some ⟨g,0,none⟩) ∧ X.heap.size ≤ g ∧ X.heap.size ≤ k ∧ Blk w' g 27 #[.int .i64 (ql : Int),.slice (some ⟨k,0,none⟩) ql ql,.slice none 0 0,.slice none 0 0,.slice none 0 0] ∧ Blk w' k 9 (Array.replicate ql (.string ByteArray.empty)))) (by kernel_rfl) ?start ?step ?fin
   case start => exact ⟨false,false,false,false,false,false,false,false,_,_,_,_,_,_,_,rfl,rfl,(Kept.refl _ _).drew,(by simp),(by simp),(by simp),(by simp),(by simp),(by simp),(by simp),(by simp)⟩
   case step =>
    rintro listed a' w' i o ⟨b0,b1,b2,b3,b4,b5,b6,b7,u11,u51,u52,u53,u54,u55,u56,rfl,rfl,hk0,f0,f1,f2,f3,f4,f5,f6,f7⟩ ho hli hd K hK
    match i,ho,hli,hd with
    | 0,ho,hli,hd =>
     obtain rfl := Option.some.inj ho
     obtain rfl : b0 = false := hli
     go_simp
     exact hK _ _ ⟨_,_,_,_,_,_,_,_,_,_,_,_,_,_,_,rfl,rfl,hk0,(fun _ => rfl),f1,f2,f3,f4,f5,f6,f7⟩
    | 1,ho,hli,hd =>
     obtain rfl := Option.some.inj ho
     obtain rfl : b1 = false := hli
     obtain rfl : b0 = true := hd ⟨0,.data⟩ (by simp) rfl
     obtain rfl := f0 rfl
     have m0 : w'.cell? ⟨w.heap.size,0,none⟩ = some (.int .i64 (ql : Int)) := hk0.cell (BPX.out.cell 0) (by simp)
     go_simp
     exact hK _ _ ⟨_,_,_,_,_,_,_,_,_,_,_,_,_,_,_,rfl,rfl,hk0,f0,(fun _ => rfl),f2,f3,f4,f5,f6,f7⟩
    | 2,ho,hli,hd =>
     obtain rfl := Option.some.inj ho
     obtain rfl : b2 = false := hli
     go_simp
     exact hK _ _ ⟨_,_,_,_,_,_,_,_,_,_,_,_,_,_,_,rfl,rfl,hk0,f0,f1,(fun _ => rfl),f3,f4,f5,f6,f7⟩
    | 3,ho,hli,hd =>
     obtain rfl := Option.some.inj ho
     obtain rfl : b3 = false := hli
     obtain rfl : b2 = true := hd ⟨2,.data⟩ (by simp) rfl
     obtain rfl := f2 rfl
     have m0 : w'.cell? ⟨w.heap.size,0,none⟩ = some (.int .i64 (ql : Int)) := hk0.cell (BPX.out.cell 0) (by simp)
     go_simp
     exact hK _ _ ⟨_,_,_,_,_,_,_,_,_,_,_,_,_,_,_,rfl,rfl,hk0,f0,f1,f2,(fun _ => rfl),f4,f5,f6,f7⟩
    | 4,ho,hli,hd =>
     obtain rfl := Option.some.inj ho
     obtain rfl : b4 = false := hli
     obtain rfl : b3 = true := hd ⟨3,.data⟩ (by simp) rfl
     obtain rfl := f3 rfl
     have hmk := make_strR ql (by omega) w'
     have hb := bel_alloc w' (.cells (Array.replicate ql (.string ByteArray.empty)) 9)
     have hk := Kept.of_below hb []
     go_simp
     exact hK _ _ ⟨_,_,_,_,_,_,_,_,_,_,_,_,_,_,_,rfl,rfl,(hk0.trans hk),f0,f1,f2,f3,(fun _ => ⟨_,rfl,hk0.size,blk_new rfl _ _⟩),(fun e => by obtain ⟨k,e1,e2,e3⟩ := f5 e; exact ⟨k,e1,e2,e3.bel hb⟩),(fun e => by obtain ⟨g,cs,e1,e2,e4,e3⟩ := f6 e; exact ⟨g,cs,e1,e2,e4,e3.bel hb⟩),(fun e => by obtain ⟨e0,g,k,e1,e2,e3,e4,e5⟩ := f7 e; exact ⟨e0,g,k,e1,e2,e3,e4.bel hb,e5.bel hb⟩)⟩
    | 5,ho,hli,hd =>
     obtain rfl := Option.some.inj ho
     obtain rfl : b5 = false := hli
     obtain rfl : b1 = true := hd ⟨1,.data⟩ (by simp) rfl
     obtain rfl : b4 = true := hd ⟨4,.data⟩ (by simp) rfl
     obtain rfl := f1 rfl
     obtain ⟨k,rfl,k1,k2⟩ := f4 rfl
     go_simp
     exact hK _ _ ⟨_,_,_,_,_,_,_,_,_,_,_,_,_,_,_,rfl,rfl,hk0,f0,f1,f2,f3,(fun _ => ⟨k,rfl,k1,k2⟩),(fun _ => ⟨k,rfl,k1,k2⟩),f6,f7⟩
    | 6,ho,hli,hd =>
     obtain rfl := Option.some.inj ho
     obtain rfl : b6 = false := hli
     have hb := bel_alloc w' (.cells #[.int .i64 0,.slice none 0 0,.slice none 0 0,.slice none 0 0,.slice none 0 0] 27)
     have hk := Kept.of_below hb []
     go_simp
     exact hK _ _ ⟨_,_,_,_,_,_,_,_,_,_,_,_,_,_,_,rfl,rfl,(hk0.trans hk),f0,f1,f2,f3,(fun e => by obtain ⟨k,e1,e2,e3⟩ := f4 e; exact ⟨k,e1,e2,e3.bel hb⟩),(fun e => by obtain ⟨k,e1,e2,e3⟩ := f5 e; exact ⟨k,e1,e2,e3.bel hb⟩),(fun _ => ⟨_,_,rfl,hk0.size,rfl,blk_new rfl _ _⟩),(fun e => by have := (f7 e).1; cases this)⟩
    | 7,ho,hli,hd =>
     obtain rfl := Option.some.inj ho
     obtain rfl : b7 = false := hli
     obtain rfl : b5 = true := hd ⟨5,.data⟩ (by simp) rfl
     obtain rfl : b6 = true := hd ⟨6,.data⟩ (by simp) rfl
     obtain ⟨k,rfl,k1,k2⟩ := f5 rfl
     obtain ⟨g,cs,rfl,g1,g2,g3⟩ := f6 rfl
     have hkg : k ≠ g := fun e => blk_apart k2 g3 (by decide) e
     have hk : Kept [] X (w'.setRow g #[.int .i64 (ql : Int),.slice (some ⟨k,0,none⟩) ql ql,.slice none 0 0,.slice none 0 0,.slice none 0 0]) := hk0.row (.inr g1) _
     have ht : Kept [g] w' (w'.setRow g #[.int .i64 (ql : Int),.slice (some ⟨k,0,none⟩) ql ql,.slice none 0 0,.slice none 0 0,.slice none 0 0]) := (Kept.refl _ _).row (.inl (by simp)) _
     have k3 := ht.blk k2 (by simpa using hkg)
     refine step_row rfl _ _ _ rfl g #[.int .i64 (ql : Int),.slice (some ⟨k,0,none⟩) ql ql,.slice none 0 0,.slice none 0 0,.slice none 0 0] rfl rfl 27 cs g3 info_prog' (by rw [g2]; rfl) (by simp [Value.oneCell']) ?_
     exact hK _ _ ⟨_,_,_,_,_,_,_,_,_,_,_,_,_,_,_,rfl,rfl,hk,f0,f1,f2,f3,(fun e => by obtain ⟨k',e1,e2,e3⟩ := f4 e; exact ⟨k',e1,e2,ht.blk e3 (by simpa using fun e => blk_apart e3 g3 (by decide) e)⟩),(fun _ => ⟨k,rfl,k1,k3⟩),(fun _ => ⟨g,_,rfl,g1,rfl,g3.row _⟩),(fun _ => ⟨rfl,g,k,rfl,g1,k1,g3.row _,k3⟩)⟩
    | i + 8,ho,hli,hd => simp at ho
   case fin =>
    rintro listed a' w' ⟨b0,b1,b2,b3,b4,b5,b6,b7,u11,u51,u52,u53,u54,u55,u56,rfl,rfl,hk0,f0,f1,f2,f3,f4,f5,f6,f7⟩ hr
    obtain rfl : b0 = true := ready_nil hr (i := 0) rfl (by first | (simp; done) | (simp; intro q; exact absurd q (by decide)))
    obtain rfl : b1 = true := ready_nil hr (i := 1) rfl (by first | (simp; done) | (simp; intro q; exact absurd q (by decide)))
    obtain rfl : b2 = true := ready_nil hr (i := 2) rfl (by first | (simp; done) | (simp; intro q; exact absurd q (by decide)))
    obtain rfl : b3 = true := ready_nil hr (i := 3) rfl (by first | (simp; done) | (simp; intro q; exact absurd q (by decide)))
    obtain rfl : b4 = true := ready_nil hr (i := 4) rfl (by first | (simp; done) | (simp; intro q; exact absurd q (by decide)))
    obtain rfl : b5 = true := ready_nil hr (i := 5) rfl (by first | (simp; done) | (simp; intro q; exact absurd q (by decide)))
    obtain rfl : b6 = true := ready_nil hr (i := 6) rfl (by first | (simp; done) | (simp; intro q; exact absurd q (by decide)))
    obtain rfl : b7 = true := ready_nil hr (i := 7) rfl (by first | (simp; done) | (simp; intro q; exact absurd q (by decide)))
    clear hr
    obtain ⟨-,g,k,rfl,g1,k1,g2,k2⟩ := f7 rfl
    clear f0 f1 f2 f3 f4 f5 f6 f7
    have hX3 := BZ3.out.lt
    have bp4 := hk0.blk BP3.out (by simp)
    have bq4 := hk0.blk BQ3.out (by simp)
    have bz4 := hk0.blk BZ3.out (by simp)
    have hkg : k ≠ g := fun e => blk_apart k2 g2 (by decide) e
    have hgl := g2.lt
    have hkl := k2.lt
    have hR0 : RenS w #[.int .i64 (ql : Int),.slice nA ql nc,.slice sA sl sc,.slice rA rl rc,.slice mA ml mc] #[.slice qA ql qc] (ql : Int) g [w.heap.size + 2,g,k] (.slice (some ⟨k,0,none⟩) ql ql) (.slice none 0 0) (.slice none 0 0) (.slice none 0 0) (List.replicate ql ByteArray.empty) [] [] [] w' :=
     ⟨Kept.below HBW3.out hk0 (by omega) (by simp),bp4,bq4,bz4,g2,RowO.made k2 (by simp) (by simp [strR]) (by unfold maxLen; omega) (by omega) (fun i x hx V _ => made_str hx),fun V _ => ⟨none,0,0,rfl,SlIs.nil _ _⟩,RowO.nil (by omega),RowO.nil (by omega),
      by simp,by simp,fun q hq => by simp [Value.ownBlock] at hq; subst hq; simp,fun q hq => by simp [Value.ownBlock] at hq,fun q hq => by simp [Value.ownBlock] at hq,by omega,fun q hq => by simp at hq; omega,fun q hq => by simp at hq; omega⟩
    have q1 := hR0.bp.cell 1
    have HR0 := Lib.hid hR0; clear hR0
    have HK0 := Lib.hid hk0; clear hk0
    have G2 := Lib.hid g2; clear g2
    have K2 := Lib.hid k2; clear k2
    have BP4 := Lib.hid bp4; clear bp4
    have BQ4 := Lib.hid bq4; clear bq4
    have BZ4 := Lib.hid bz4; clear bz4
    go_wp2_with fail
    clear q1
    go_loopw [60] (fun t wr => ∃ (i : Nat),i ≤ ql ∧ t = .int .i64 (i : Int) ∧ RenS w #[.int .i64 (ql : Int),.slice nA ql nc,.slice sA sl sc,.slice rA rl rc,.slice mA ml mc] #[.slice qA ql qc] (ql : Int) g [w.heap.size + 2,g,k] (.slice (some ⟨k,0,none⟩) ql ql) (.slice none 0 0) (.slice none 0 0) (.slice none 0 0) (mvNgo (pm.take i) (p.names.take i) (List.replicate ql ByteArray.empty)) [] [] [] wr) (fun t _ => ql - (intOf t).toNat)
    case atStart => exact ⟨0,Nat.zero_le _,rfl,by simpa [mvNgo] using HR0.out⟩
    case round =>
     obtain ⟨i,hi,rfl,hs⟩ := hrel
     by_cases hlt : i < ql
     ·obtain ⟨s,hsi,-⟩ := HP.out.names.drop hlt
      obtain ⟨sb,so,rfl,_,cs0,hs2⟩ := HP.out.names.str hsi
      obtain ⟨q,hqi,-⟩ := HQ.out.drop hlt
      obtain ⟨qb,qo,rfl,_,cq0,q64⟩ := HQ.out.int hqi
      have cs := (hs.bel.cell (World.block_lt_of_cell? _ _ cs0)).trans cs0
      have cq := (hs.bel.cell (World.block_lt_of_cell? _ _ cq0)).trans cq0
      have hq1 := HPM.out.rng.1 (List.mem_of_getElem? hqi)
      obtain ⟨j,hj⟩ : ∃ j : Nat,j = (q - 1).toNat := ⟨_,rfl⟩
      have hqN : q ≤ (ql : Int) := by have := HN.out; omega
      have z1 : IntKind.i64.wrap (q - 1) = (j : Int) := by rw [IntWalk.i64_in _ (by omega)]; omega
      have j0 : (0 : Int) ≤ (j : Int) := by omega
      have j1 : (j : Int) < (ql : Int) := by omega
      have i0 : (0 : Int) ≤ (i : Int) := by omega
      have i1 : (i : Int) < (ql : Int) := by omega
      have hln := mvNgo_len (pm.take i) (p.names.take i) (List.replicate ql ByteArray.empty)
      rw [List.length_replicate] at hln
      have hsn := mvNgo_snoc hqi hsi (List.replicate ql ByteArray.empty)
      rw [← hj] at hsn
      obtain ⟨y,hy⟩ : ∃ y,(mvNgo (pm.take i) (p.names.take i) (List.replicate ql ByteArray.empty))[j]? = some y := ⟨_,List.getElem?_eq_getElem (by omega)⟩
      obtain ⟨kb,cap,c0,hv,hst,hcl,hcell,hfz⟩ := hs.rn.cellAt hy
      obtain rfl : k = kb := by injection hv with hv; injection hv with hv; injection hv
      obtain ⟨u,hu⟩ : ∃ u,c0[0]? = some u := ⟨_,List.getElem?_eq_getElem (by rw [hcl]; decide)⟩
      have hc1 : wr.cell? ⟨k,j,none⟩ = some u := by have := hcell 0 u hu; simpa [strR] using this
      have hf1 := hfz j
      have b1 := hs.bx.cell 1
      have b2 := hs.bq.cell 0
      have hs' := (hs.ext ((Below.refl wr.heap.size wr).drew)).name hy hs2
      rw [← hsn] at hs'
      clear hv hst hcl hcell hfz hu cs0 cq0 hln hsn hy
      have HC1 := Lib.hid hc1
      have HF1 := Lib.hid hf1
      clear hc1 hf1
      have HSI := Lib.hid hsi; clear hsi
      have HS2 := Lib.hid hs2; clear hs2
      have HQI := Lib.hid hqi; clear hqi
      have Q64 := Lib.hid q64; clear q64
      have HJ := Lib.hid hj; clear hj
      have HQ1 := Lib.hid hq1; clear hq1
      have HQN := Lib.hid hqN; clear hqN
      have HS := Lib.hid hs; clear hs
      have HS' := Lib.hid hs'; clear hs'
      go_wp2_with fail
      refine wp_region_tail 9 [(⟨g,1,none⟩,.slice (some ⟨k,0,none⟩) ql ql),(⟨w.heap.size + 1,0,none⟩,.slice (some ⟨qb,qo,none⟩) ql qc),(⟨qb,qo + i,none⟩,.int .i64 q)] (by kernel_rfl) (by kernel_rfl) (by simp [go_sem, *]) ?_
      intro X hk hX; simp only [List.forall_mem_cons] at hk; obtain ⟨kt0,kt1,kt2,kz⟩ := hk; clear kz
      simp only [List.take_succ_cons,List.take_zero,List.drop_succ_cons,List.drop_zero]
      repeat go_big_quiet_step (fail)
      refine wpQuiet_nil ?_
      have cX : X.cell? ⟨k,j,none⟩ = some u := by rw [hX]; exact HC1.out
      have fX : X.frozen? ⟨k,j,none⟩ = false := by rw [hX]; exact HF1.out
      have hsX := HS'.out
      rw [← hX] at hsX
      clear hX b1 b2 cs cq
      have HSX := Lib.hid hsX; clear hsX
      go_wp2_with fail
      go_roundw
      case rel => exact ⟨i + 1,by omega,by go_num,HSX.out⟩
      case measure => simp [intOf]; omega
     ·have hil : ql = i := by omega
      subst hil
      rw [List.take_of_length_le (show pm.length ≤ ql by have := HQL.out; omega),List.take_of_length_le (show p.names.length ≤ ql by have := HNL.out; omega)] at hs
      obtain ⟨NS,hNS⟩ : ∃ NS,NS = mvNgo pm p.names (List.replicate ql ByteArray.empty) := ⟨_,rfl⟩
      rw [← hNS] at hs
      have b3 := hs.bp.cell 2
      have HNS := Lib.hid hNS; clear hNS
      obtain ⟨X2,rfl⟩ : ∃ X2 : World,X2 = wr := ⟨_,rfl⟩
      go_wp2_with fail
      have hsl : sl ≤ 4000 := by have := inc_lenN hn0 HSI.out; have := HP.out.shown.len; omega
      have hsh : ∀ x ∈ p.shown,litB x p.n = true := fun x hx => litB_iff.2 (by have := inc_mem HSI.out x hx; omega)
      have hm63 : ∀ x ∈ p.shown.map (mvI pm),-9223372036854775807 ≤ x := fun x hx => by
       obtain ⟨y,hy,rfl⟩ := List.mem_map.1 hx
       have := litB_iff.1 (mv_lit HPM.out (hsh y hy)); omega
      have hlt2 := hs.lt
      have hX2 := hs.sz
      clear b3
      have HS2 := Lib.hid hs
      clear hs
      have HSH := Lib.hid hsh; clear hsh
      have HM63 := Lib.hid hm63; clear hm63
      have HLT2 := Lib.hid hlt2; clear hlt2
      refine wp_region_inv (fun listed a' w' => ∃ (b0 b1 b2 b3 b4 b5 b6 b7 b8 b9 b10 b11 b12 b13 : Bool) (u75 u76 u77 u78 u79 u80 u81 u82 u83 u84 u85 u86 u87 : Value),listed = #[b0,b1,b2,b3,b4,b5,b6,b7,b8,b9,b10,b11,b12,b13] ∧ a' = { tmps := #[.agg #[.int .i64 (ql : Int),.slice nA ql nc,.slice sA sl sc,.slice rA rl rc,.slice mA ml mc],.slice qA ql qc,.pointer (some ⟨w.heap.size,0,none⟩),.pointer (some ⟨w.heap.size + 1,0,none⟩),.pointer (some ⟨w.heap.size + 1 + 1,0,none⟩),u5,.int .i64 0,.slice A ql c,u8,u9,Value.func (Fn.func 21) #[] #[.pointer (some ⟨w.heap.size + 1,0,none⟩)],.pointer (some ⟨g,0,none⟩),u12,u13,undef,undef,undef,undef,undef,undef,undef,undef,.agg #[.int .i64 (ql : Int),.slice nA ql nc,.slice sA sl sc,.slice rA rl rc,.slice mA ml mc],.int .i64 0,.int .i64 0,.bool false,undef,undef,.slice qA ql qc,Value.func (Fn.func 39) #[] #[.pointer (some ⟨w1.heap.size,0,none⟩)],.slice A ql c,.slice A ql c,.int .i64 (ql : Int),.int .i64 (ql : Int),.bool false,u35,u36,u37,u38,u39,u40,u41,u42,u43,.slice qA ql qc,.int .i64 (ql : Int),.pointer (some ⟨w.heap.size,0,none⟩),.int .i64 (ql : Int),.bool false,undef,Value.func (Fn.func 21) #[] #[.pointer (some ⟨w.heap.size + 1,0,none⟩)],u51,u52,u53,u54,u55,u56,.pointer (some ⟨w.heap.size,1,none⟩),.slice nA ql nc,.int .i64 (ql : Int),.int .i64 (ql : Int),.bool false,u62,u63,u64,u65,u66,u67,u68,u69,u70,u71,u72,u73,u74,u75,u76,u77,u78,u79,u80,u81,u82,u83,u84,u85,u86,u87,undef,undef,undef,undef,undef,undef,undef,undef,undef,undef,undef,undef,undef,undef,undef,undef,undef,undef,undef,undef,undef,undef,undef,undef,undef,undef,undef,undef,undef,undef,undef,undef,undef,undef,undef,undef,undef,undef,undef,undef,undef,undef,undef,undef,undef,undef,undef,undef,undef,undef,undef,undef,undef,undef,undef,undef,undef,undef,undef,undef],defers := [] } ∧ (Kept [w.heap.size + 2,g,k] X2 w') ∧ (b13 = false → RenS w #[.int .i64 (ql : Int),.slice nA ql nc,.slice sA sl sc,.slice rA rl rc,.slice mA ml mc] #[.slice qA ql qc] (ql : Int) g [w.heap.size + 2,g,k] (.slice (some ⟨k,0,none⟩) ql ql) (.slice none 0 0) (.slice none 0 0) (.slice none 0 0) NS [] [] [] w') ∧ (b13 = true → ∃ (A : Option Addr) (l c : Nat),RenS w #[.int .i64 (ql : Int),.slice nA ql nc,.slice sA sl sc,.slice rA rl rc,.slice mA ml mc] #[.slice qA ql qc] (ql : Int) g [w.heap.size + 2,g,k] (.slice (some ⟨k,0,none⟩) ql ql) (.slice A l c) (.slice none 0 0) (.slice none 0 0) NS (litsOf (p.shown.map (mvI pm))) [] [] w') ∧ (b0 = true → u76 = .func (.func 21) #[] #[.pointer (some ⟨w.heap.size + 1,0,none⟩)]) ∧ (b1 = true → u77 = .pointer (some ⟨w.heap.size,2,none⟩)) ∧ (b2 = true → u78 = .slice sA sl sc) ∧ (b3 = true → St [w.heap.size + 2,g,k] w' (fun V => ∃ A c,u79 = .slice A sl c ∧ SlIs intR V A sl c (p.shown.map (mvI pm)))) ∧ (b4 = true → u80 = .pointer (some ⟨w.heap.size,2,none⟩)) ∧ (b5 = true → u81 = .slice sA sl sc) ∧ (b6 = true → u82 = .int .i64 (sl : Int)) ∧ (b7 = true → b13 = false → ∃ A c,u83 = .slice A sl c ∧ SlIs intR w' A sl c (List.replicate sl 1)) ∧ (b9 = true → b8 = true) ∧ (b10 = true → b8 = true) ∧ (b13 = true → b8 = true) ∧ (b8 = true → St [w.heap.size + 2,g,k] w' (fun V => ∃ A l c D i q,u84 = .tuple #[.slice A l c,.slice D i q] ∧ SlIs intR V A l c (litsOf (p.shown.map (mvI pm))))) ∧ (b9 = true → St [w.heap.size + 2,g,k] w' (fun V => ∃ A l c D i q,u75 = .tuple #[.slice A l c,.slice D i q] ∧ SlIs intR V A l c (litsOf (p.shown.map (mvI pm))))) ∧ (b10 = true → ∃ A l c,u85 = .slice A l c ∧ St [w.heap.size + 2,g,k] w' (fun V => SlIs intR V A l c (litsOf (p.shown.map (mvI pm))))) ∧ (b12 = true → u87 = .pointer (some ⟨g,2,none⟩))) (by kernel_rfl) ?start ?step ?fin
      case start => exact ⟨false,false,false,false,false,false,false,false,false,false,false,false,false,false,_,_,_,_,_,_,_,_,_,_,_,_,_,rfl,rfl,(Kept.refl _ _).drew,(fun _ => HS2.out.ext ((Below.refl _ _).drew)),(by simp),(by simp),(by simp),(by simp),(by simp),(by simp),(by simp),(by simp),(by simp),(by simp),(by simp),(by simp),(by simp),(by simp),(by simp),(by simp)⟩
      case step =>
       rintro listed a' w' i o ⟨b0,b1,b2,b3,b4,b5,b6,b7,b8,b9,b10,b11,b12,b13,u75,u76,u77,u78,u79,u80,u81,u82,u83,u84,u85,u86,u87,rfl,rfl,hk0,fR,f13,f0,f1,f2,f3,f4,f5,f6,f7,d9,d10,d13,f8,f9,f10,f12⟩ ho hli hd K hK
       match i,ho,hli,hd with
       | 0,ho,hli,hd =>
        obtain rfl := Option.some.inj ho
        obtain rfl : b0 = false := hli
        go_simp
        exact hK _ _ ⟨_,_,_,_,_,_,_,_,_,_,_,_,_,_,_,_,_,_,_,_,_,_,_,_,_,_,_,rfl,rfl,hk0,fR,f13,(fun _ => rfl),f1,f2,f3,f4,f5,f6,f7,d9,d10,d13,f8,f9,f10,f12⟩
       | 1,ho,hli,hd =>
        obtain rfl := Option.some.inj ho
        obtain rfl : b1 = false := hli
        go_simp
        exact hK _ _ ⟨_,_,_,_,_,_,_,_,_,_,_,_,_,_,_,_,_,_,_,_,_,_,_,_,_,_,_,rfl,rfl,hk0,fR,f13,f0,(fun _ => rfl),f2,f3,f4,f5,f6,f7,d9,d10,d13,f8,f9,f10,f12⟩
       | 2,ho,hli,hd =>
        obtain rfl := Option.some.inj ho
        obtain rfl : b2 = false := hli
        obtain rfl : b1 = true := hd ⟨1,.data⟩ (by simp) rfl
        obtain rfl := f1 rfl
        have m2 : w'.cell? ⟨w.heap.size,2,none⟩ = some (.slice sA sl sc) := hk0.cell (HS2.out.bp.cell 2) (by simp; omega)
        go_simp
        exact hK _ _ ⟨_,_,_,_,_,_,_,_,_,_,_,_,_,_,_,_,_,_,_,_,_,_,_,_,_,_,_,rfl,rfl,hk0,fR,f13,f0,f1,(fun _ => rfl),f3,f4,f5,f6,f7,d9,d10,d13,f8,f9,f10,f12⟩
       | 3,ho,hli,hd =>
        obtain rfl := Option.some.inj ho
        obtain rfl : b3 = false := hli
        obtain rfl : b0 = true := hd ⟨0,.data⟩ (by simp) rfl
        obtain rfl : b2 = true := hd ⟨2,.data⟩ (by simp) rfl
        obtain rfl := f0 rfl
        obtain rfl := f2 rfl
        have hbv := Kept.below HS2.out.bel hk0 (by omega) (by simp; omega)
        have hltv := hk0.size
        go_simp
        refine (ren1_any (w.heap.size + 1) qA ql qc pm p.n sA sl sc p.shown w' (hk0.cell (HS2.out.bq.cell 0) (by simp; omega)) (HQ.out.ext hbv) HPM.out hn1 (HP.out.shown.ext hbv) HSH.out).mono ?_
        rintro e v ⟨A,l',c,rfl,hso,rfl,hfo,hb⟩
        have hk := Kept.of_below hb [w.heap.size + 2,g,k]
        have hst : St [w.heap.size + 2,g,k] v (fun V => SlIs intR V A l' c (p.shown.map (mvI pm))) := St.ints hso (hfo.off (fun q hq => by have := HLT2.out q hq; omega))
        exact hK _ _ ⟨_,_,_,_,_,_,_,_,_,_,_,_,_,_,_,_,_,_,_,_,_,_,_,_,_,_,_,rfl,rfl,(hk0.trans hk),(fun e => (fR e).ext hb),(fun e => by obtain ⟨A,l,c,h⟩ := f13 e; exact ⟨A,l,c,h.ext hb⟩),f0,f1,f2,(fun _ => hst.imp fun V h => ⟨A,c,rfl,h⟩),f4,f5,f6,(fun e e' => by obtain ⟨A,c,e1,h⟩ := f7 e e'; exact ⟨A,c,e1,h.ext hb⟩),d9,d10,d13,(fun e => (f8 e).go hk),(fun e => (f9 e).go hk),(fun e => by obtain ⟨A,l,c,e1,h⟩ := f10 e; exact ⟨A,l,c,e1,h.go hk⟩),f12⟩
       | 4,ho,hli,hd =>
        obtain rfl := Option.some.inj ho
        obtain rfl : b4 = false := hli
        go_simp
        exact hK _ _ ⟨_,_,_,_,_,_,_,_,_,_,_,_,_,_,_,_,_,_,_,_,_,_,_,_,_,_,_,rfl,rfl,hk0,fR,f13,f0,f1,f2,f3,(fun _ => rfl),f5,f6,f7,d9,d10,d13,f8,f9,f10,f12⟩
       | 5,ho,hli,hd =>
        obtain rfl := Option.some.inj ho
        obtain rfl : b5 = false := hli
        obtain rfl : b4 = true := hd ⟨4,.data⟩ (by simp) rfl
        obtain rfl := f4 rfl
        have m2 : w'.cell? ⟨w.heap.size,2,none⟩ = some (.slice sA sl sc) := hk0.cell (HS2.out.bp.cell 2) (by simp; omega)
        go_simp
        exact hK _ _ ⟨_,_,_,_,_,_,_,_,_,_,_,_,_,_,_,_,_,_,_,_,_,_,_,_,_,_,_,rfl,rfl,hk0,fR,f13,f0,f1,f2,f3,f4,(fun _ => rfl),f6,f7,d9,d10,d13,f8,f9,f10,f12⟩
       | 6,ho,hli,hd =>
        obtain rfl := Option.some.inj ho
        obtain rfl : b6 = false := hli
        obtain rfl : b5 = true := hd ⟨5,.data⟩ (by simp) rfl
        obtain rfl := f5 rfl
        go_simp
        exact hK _ _ ⟨_,_,_,_,_,_,_,_,_,_,_,_,_,_,_,_,_,_,_,_,_,_,_,_,_,_,_,rfl,rfl,hk0,fR,f13,f0,f1,f2,f3,f4,f5,(fun _ => rfl),f7,d9,d10,d13,f8,f9,f10,f12⟩
       | 7,ho,hli,hd =>
        obtain rfl := Option.some.inj ho
        obtain rfl : b7 = false := hli
        obtain rfl : b6 = true := hd ⟨6,.data⟩ (by simp) rfl
        obtain rfl := f6 rfl
        have hltv := hk0.size
        go_simp
        refine (ones_any sl w' (by omega)).mono ?_
        rintro e v ⟨A,c,rfl,hso,hb⟩
        have hk := Kept.of_below hb [w.heap.size + 2,g,k]
        exact hK _ _ ⟨_,_,_,_,_,_,_,_,_,_,_,_,_,_,_,_,_,_,_,_,_,_,_,_,_,_,_,rfl,rfl,(hk0.trans hk),(fun e => (fR e).ext hb),(fun e => by obtain ⟨A,l,c,h⟩ := f13 e; exact ⟨A,l,c,h.ext hb⟩),f0,f1,f2,(fun e => (f3 e).go hk),f4,f5,f6,(fun _ _ => ⟨A,c,rfl,hso⟩),d9,d10,d13,(fun e => (f8 e).go hk),(fun e => (f9 e).go hk),(fun e => by obtain ⟨A,l,c,e1,h⟩ := f10 e; exact ⟨A,l,c,e1,h.go hk⟩),f12⟩
       | 8,ho,hli,hd =>
        obtain rfl := Option.some.inj ho
        obtain rfl : b8 = false := hli
        obtain rfl : b3 = true := hd ⟨3,.data⟩ (by simp) rfl
        obtain rfl : b7 = true := hd ⟨7,.data⟩ (by simp) rfl
        have e13 : b13 = false := by
         cases hh : b13 with
         | false => rfl
         | true => have := d13 hh; cases this
        obtain ⟨A,c,rfl,hs3⟩ := (f3 rfl).now
        obtain ⟨A1,c1,rfl,hs4⟩ := f7 rfl e13
        have hltv := hk0.size
        go_simp
        refine (sorted_any A sl c A1 sl c1 (p.shown.map (mvI pm)) (List.replicate sl 1) w' hs3 hs4 rfl (by omega) HM63.out (fun y hy => by rw [List.eq_of_mem_replicate hy]; omega) (by rw [ones_sum]; omega)).mono ?_
        rintro e v ⟨B,l,c,D,i,q,rfl,hso,-,hfo,-,hb⟩
        have hk := Kept.of_below hb [w.heap.size + 2,g,k]
        have hst : St [w.heap.size + 2,g,k] v (fun V => SlIs intR V B l c (litsOf (p.shown.map (mvI pm)))) := St.ints hso (hfo.off (fun q hq => by have := HLT2.out q hq; omega))
        exact hK _ _ ⟨_,_,_,_,_,_,_,_,_,_,_,_,_,_,_,_,_,_,_,_,_,_,_,_,_,_,_,rfl,rfl,(hk0.trans hk),(fun e => (fR e).ext hb),(fun e => by obtain ⟨A,l,c,h⟩ := f13 e; exact ⟨A,l,c,h.ext hb⟩),f0,f1,f2,(fun e => (f3 e).go hk),f4,f5,f6,(fun e e' => by obtain ⟨A,c,e1,h⟩ := f7 e e'; exact ⟨A,c,e1,h.ext hb⟩),(fun _ => rfl),(fun _ => rfl),(fun _ => rfl),(fun _ => hst.imp fun V h => ⟨B,l,c,D,i,q,rfl,h⟩),(fun e => (f9 e).go hk),(fun e => by obtain ⟨A,l,c,e1,h⟩ := f10 e; exact ⟨A,l,c,e1,h.go hk⟩),f12⟩
       | 9,ho,hli,hd =>
        obtain rfl := Option.some.inj ho
        obtain rfl : b9 = false := hli
        obtain rfl : b8 = true := hd ⟨8,.data⟩ (by simp) rfl
        go_simp
        exact hK _ _ ⟨_,_,_,_,_,_,_,_,_,_,_,_,_,_,_,_,_,_,_,_,_,_,_,_,_,_,_,rfl,rfl,hk0,fR,f13,f0,f1,f2,f3,f4,f5,f6,f7,(fun _ => rfl),d10,d13,f8,(fun _ => f8 rfl),f10,f12⟩
       | 10,ho,hli,hd =>
        obtain rfl := Option.some.inj ho
        obtain rfl : b10 = false := hli
        obtain rfl : b9 = true := hd ⟨9,.data⟩ (by simp) rfl
        obtain ⟨A,l,c,D,i,q,rfl,-⟩ := (f9 rfl).now
        have hst : St [w.heap.size + 2,g,k] w' (fun V => SlIs intR V A l c (litsOf (p.shown.map (mvI pm)))) := fun V hV => by obtain ⟨A',l',c',D',i',q',e1,h⟩ := f9 rfl V hV; cases e1; exact h
        go_simp
        exact hK _ _ ⟨_,_,_,_,_,_,_,_,_,_,_,_,_,_,_,_,_,_,_,_,_,_,_,_,_,_,_,rfl,rfl,hk0,fR,f13,f0,f1,f2,f3,f4,f5,f6,f7,d9,(fun _ => d9 rfl),d13,f8,f9,(fun _ => ⟨A,l,c,rfl,hst⟩),f12⟩
       | 11,ho,hli,hd =>
        obtain rfl := Option.some.inj ho
        obtain rfl : b11 = false := hli
        obtain rfl : b9 = true := hd ⟨9,.data⟩ (by simp) rfl
        obtain ⟨A,l,c,D,i,q,rfl,-⟩ := (f9 rfl).now
        go_simp
        exact hK _ _ ⟨_,_,_,_,_,_,_,_,_,_,_,_,_,_,_,_,_,_,_,_,_,_,_,_,_,_,_,rfl,rfl,hk0,fR,f13,f0,f1,f2,f3,f4,f5,f6,f7,d9,d10,d13,f8,f9,f10,f12⟩
       | 12,ho,hli,hd =>
        obtain rfl := Option.some.inj ho
        obtain rfl : b12 = false := hli
        go_simp
        exact hK _ _ ⟨_,_,_,_,_,_,_,_,_,_,_,_,_,_,_,_,_,_,_,_,_,_,_,_,_,_,_,rfl,rfl,hk0,fR,f13,f0,f1,f2,f3,f4,f5,f6,f7,d9,d10,d13,f8,f9,f10,(fun _ => rfl)⟩
       | 13,ho,hli,hd =>
        obtain rfl := Option.some.inj ho
        obtain rfl : b13 = false := hli
        obtain rfl : b10 = true := hd ⟨10,.data⟩ (by simp) rfl
        obtain rfl : b12 = true := hd ⟨12,.data⟩ (by simp) rfl
        obtain ⟨A,l,c,rfl,hst⟩ := f10 rfl
        obtain rfl := f12 rfl
        have hR := (fR rfl).shown (A := A) (l := l) (c := c) hst
        have m1 := (fR rfl).bx.cell 2
        have m2 := (fR rfl).bx.frozen 2
        have hk : Kept [w.heap.size + 2,g,k] w' (w'.setCell ⟨g,2,none⟩ (.slice A l c)) := (Kept.refl _ _).set (.inl (by simp)) _
        go_simp
        exact hK _ _ ⟨_,_,_,_,_,_,_,_,_,_,_,_,_,_,_,_,_,_,_,_,_,_,_,_,_,_,_,rfl,rfl,(hk0.trans hk),(fun e => by cases e),(fun _ => ⟨A,l,c,hR⟩),f0,f1,f2,(fun e => (f3 e).go hk),f4,f5,f6,(fun _ e => by cases e),d9,d10,(fun _ => d10 rfl),(fun e => (f8 e).go hk),(fun e => (f9 e).go hk),(fun e => by obtain ⟨A,l,c,e1,h⟩ := f10 e; exact ⟨A,l,c,e1,h.go hk⟩),f12⟩
       | i + 14,ho,hli,hd => simp at ho
      case fin =>
       rintro listed a' w' ⟨b0,b1,b2,b3,b4,b5,b6,b7,b8,b9,b10,b11,b12,b13,u75,u76,u77,u78,u79,u80,u81,u82,u83,u84,u85,u86,u87,rfl,rfl,hk0,fR,f13,f0,f1,f2,f3,f4,f5,f6,f7,d9,d10,d13,f8,f9,f10,f12⟩ hr
       obtain rfl : b0 = true := ready_nil hr (i := 0) rfl (by first | (simp; done) | (simp; intro q; exact absurd q (by decide)))
       obtain rfl : b1 = true := ready_nil hr (i := 1) rfl (by first | (simp; done) | (simp; intro q; exact absurd q (by decide)))
       obtain rfl : b2 = true := ready_nil hr (i := 2) rfl (by first | (simp; done) | (simp; intro q; exact absurd q (by decide)))
       obtain rfl : b3 = true := ready_nil hr (i := 3) rfl (by first | (simp; done) | (simp; intro q; exact absurd q (by decide)))
       obtain rfl : b4 = true := ready_nil hr (i := 4) rfl (by first | (simp; done) | (simp; intro q; exact absurd q (by decide)))
       obtain rfl : b5 = true := ready_nil hr (i := 5) rfl (by first | (simp; done) | (simp; intro q; exact absurd q (by decide)))
       obtain rfl : b6 = true := ready_nil hr (i := 6) rfl (by first | (simp; done) | (simp; intro q; exact absurd q (by decide)))
       obtain rfl : b7 = true := ready_nil hr (i := 7) rfl (by first | (simp; done) | (simp; intro q; exact absurd q (by decide)))
       obtain rfl : b8 = true := ready_nil hr (i := 8) rfl (by first | (simp; done) | (simp; intro q; exact absurd q (by decide)))
       obtain rfl : b9 = true := ready_nil hr (i := 9) rfl (by first | (simp; done) | (simp; intro q; exact absurd q (by decide)))
       obtain rfl : b10 = true := ready_nil hr (i := 10) rfl (by first | (simp; done) | (simp; intro q; exact absurd q (by decide)))
       obtain rfl : b11 = true := ready_nil hr (i := 11) rfl (by first | (simp; done) | (simp; intro q; exact absurd q (by decide)))
       obtain rfl : b12 = true := ready_nil hr (i := 12) rfl (by first | (simp; done) | (simp; intro q; exact absurd q (by decide)))
       obtain rfl : b13 = true := ready_nil hr (i := 13) rfl (by first | (simp; done) | (simp; intro q; exact absurd q (by decide)))
       clear hr
       obtain ⟨A2,l2,c2,hR2⟩ := f13 rfl
       clear fR f13 f0 f1 f2 f3 f4 f5 f6 f7 f8 f9 f10 f12 d9 d10 d13
       have q1 := hR2.bp.cell 3
       obtain ⟨SH,hSH⟩ : ∃ SH,SH = litsOf (p.shown.map (mvI pm)) := ⟨_,rfl⟩
       rw [← hSH] at hR2
       have HK0 := Lib.hid hk0; clear hk0
       have HSH := Lib.hid hSH; clear hSH
       have HR2 := Lib.hid hR2; clear hR2
       go_wp2_with fail
       clear q1 HS2
       go_loopw [91] (fun t wr => ∃ (i : Nat) (rv : Value) (S : List Nat),i ≤ rl ∧ t = .int .i64 (i : Int) ∧ RenS w #[.int .i64 (ql : Int),.slice nA ql nc,.slice sA sl sc,.slice rA rl rc,.slice mA ml mc] #[.slice qA ql qc] (ql : Int) g S (.slice (some ⟨k,0,none⟩) ql ql) (.slice A2 l2 c2) rv (.slice none 0 0) NS SH ((p.rules.take i).map (fun r => normR (mvR (mvI pm) r))) [] wr) (fun t _ => rl - (intOf t).toNat)
       case atStart => exact ⟨0,_,_,Nat.zero_le _,rfl,by simpa using HR2.out⟩
       case round =>
        obtain ⟨i,rv,S,hi,rfl,hs⟩ := hrel
        obtain ⟨wo,rfl⟩ : ∃ wo : World,wo = wr := ⟨_,rfl⟩
        have hL0 : ((p.rules.take i).map (fun r => normR (mvR (mvI pm) r))).length = i := by rw [List.length_map,List.length_take]; have := HRL.out; omega
        obtain ⟨rvA,rvc,hrv,-⟩ := hs.rr.sl (by rw [hL0]; omega)
        rw [hL0] at hrv
        subst hrv
        have HL0 := Lib.hid hL0; clear hL0
        by_cases hlt : i < rl
        ·obtain ⟨r,hri,-⟩ := HP.out.rules.drop hlt
         obtain ⟨bb,off,hA,hl,hc,bA,bl,bc,wA,wl,wc,rfl,hbl2,x0,x1,x2,x3,x4,x5,g1,g2,g3,g4⟩ := HP.out.rules.rule hri
         have d0 := (hs.bel.cell (World.block_lt_of_cell? _ _ x0)).trans x0
         have d1 := (hs.bel.cell (World.block_lt_of_cell? _ _ x1)).trans x1
         have d2 := (hs.bel.cell (World.block_lt_of_cell? _ _ x2)).trans x2
         have d3 := (hs.bel.cell (World.block_lt_of_cell? _ _ x3)).trans x3
         have d4 := (hs.bel.cell (World.block_lt_of_cell? _ _ x4)).trans x4
         have d5 := (hs.bel.cell (World.block_lt_of_cell? _ _ x5)).trans x5
         clear x0 x1 x2 x3 x4 x5
         have k0 : (0 : Int) ≤ (i : Int) := by omega
         have k1' : (i : Int) < (rl : Int) := by omega
         have hri_ := HIS.out.rules r (List.mem_of_getElem? hri)
         have hhl : ∀ x ∈ r.head,litB x p.n = true := fun x hx => litB_iff.2 (by have := inc_mem hri_.head x hx; omega)
         have hbl : ∀ x ∈ r.body,litB x p.n = true := ord_lit hri_.body
         have hhc := g1.cap
         have hhm := g1.max
         have hbc := g3.cap
         have hbm := g3.max
         obtain ⟨X4,hX4⟩ : ∃ X4,X4 = wo.alloc (.cells #[.bool r.choice,.slice hA hl hc,.bool r.sum,.int .i64 r.bound,.slice bA bl bc,.slice wA wl wc] 59) := ⟨_,rfl⟩
         obtain ⟨bx,hbx⟩ : ∃ bx,bx = wo.heap.size := ⟨_,rfl⟩
         have hbo : Below wo.heap.size wo X4 := by rw [hX4]; exact bel_alloc _ _
         have hbx5 : Blk X4 bx 59 #[.bool r.choice,.slice hA hl hc,.bool r.sum,.int .i64 r.bound,.slice bA bl bc,.slice wA wl wc] := by rw [hX4,hbx]; exact blk_new rfl _ _
         have hbxl := hbx5.lt
         have hbx3 : w.heap.size + 3 ≤ bx := by rw [hbx]; exact hs.sz
         have hbx4 := bel_trans hs.bel hbo
         have hq4 := (hs.ext hbo).bq.cell 0
         have hbxo : bx = wo.heap.size := hbx
         have HRI := Lib.hid hri; clear hri
         have G1 := Lib.hid g1; clear g1
         have G2 := Lib.hid g2; clear g2
         have G3 := Lib.hid g3; clear g3
         have G4 := Lib.hid g4; clear g4
         have HRI_ := Lib.hid hri_; clear hri_
         have HHL := Lib.hid hhl; clear hhl
         have HBL := Lib.hid hbl; clear hbl
         have HBO := Lib.hid hbo; clear hbo
         have HBX5 := Lib.hid hbx5; clear hbx5
         have HBX4 := Lib.hid hbx4; clear hbx4
         have HQ4 := Lib.hid hq4; clear hq4
         have HS := Lib.hid hs; clear hs
         have HBXO := Lib.hid hbxo; clear hbxo
         go_wp2_with fail
         rw [← hX4,← hbx]
         clear hX4 hbx d0 d1 d2 d3 d4 d5
         refine wp_region_inv (fun listed a' w' => ∃ (b0 b1 b2 b3 b4 b5 b6 b7 b8 b9 b10 b11 : Bool) (u95 u96 u97 u98 u99 u100 u101 u102 u103 u104 : Value),listed = #[b0,b1,b2,b3,b4,b5,b6,b7,b8,b9,b10,b11] ∧ a' = { tmps := #[.agg #[.int .i64 (ql : Int),.slice nA ql nc,.slice sA sl sc,.slice (some ⟨bb,off,none⟩) rl rc,.slice mA ml mc],.slice qA ql qc,.pointer (some ⟨w.heap.size,0,none⟩),.pointer (some ⟨w.heap.size + 1,0,none⟩),.pointer (some ⟨w.heap.size + 1 + 1,0,none⟩),u5,.int .i64 0,.slice A ql c,u8,u9,Value.func (Fn.func 21) #[] #[.pointer (some ⟨w.heap.size + 1,0,none⟩)],.pointer (some ⟨g,0,none⟩),u12,u13,undef,.pointer (some ⟨bx,0,none⟩),u16,u17,undef,undef,undef,undef,.agg #[.int .i64 (ql : Int),.slice nA ql nc,.slice sA sl sc,.slice (some ⟨bb,off,none⟩) rl rc,.slice mA ml mc],.int .i64 0,.int .i64 0,.bool false,undef,undef,.slice qA ql qc,Value.func (Fn.func 39) #[] #[.pointer (some ⟨w1.heap.size,0,none⟩)],.slice A ql c,.slice A ql c,.int .i64 (ql : Int),.int .i64 (ql : Int),.bool false,u35,u36,u37,u38,u39,u40,u41,u42,u43,.slice qA ql qc,.int .i64 (ql : Int),.pointer (some ⟨w.heap.size,0,none⟩),.int .i64 (ql : Int),.bool false,undef,Value.func (Fn.func 21) #[] #[.pointer (some ⟨w.heap.size + 1,0,none⟩)],u51,u52,u53,u54,u55,u56,.pointer (some ⟨w.heap.size,1,none⟩),.slice nA ql nc,.int .i64 (ql : Int),.int .i64 (ql : Int),.bool false,u62,u63,u64,u65,u66,u67,u68,u69,u70,u71,u72,u73,u74,u75,u76,u77,u78,u79,u80,u81,u82,u83,u84,u85,u86,u87,.pointer (some ⟨w.heap.size,3,none⟩),.slice (some ⟨bb,off,none⟩) rl rc,.int .i64 (rl : Int),.int .i64 (i : Int),.bool true,.pointer (some ⟨bb,off + i * 6,none⟩),.agg #[.bool r.choice,.slice hA hl hc,.bool r.sum,.int .i64 r.bound,.slice bA bl bc,.slice wA wl wc],u95,u96,u97,u98,u99,u100,u101,u102,u103,u104,u105,u106,u107,u108,u109,u110,u111,u112,u113,u114,u115,u116,u117,u118,undef,undef,undef,undef,undef,undef,undef,undef,undef,undef,undef,undef,undef,undef,undef,undef,undef,undef,undef,undef,undef,undef,undef,undef,undef,undef,undef,undef,undef],defers := [] } ∧ (Kept [bx] X4 w') ∧ (∃ v1 v4,Blk w' bx 59 #[.bool r.choice,v1,.bool r.sum,.int .i64 r.bound,v4,.slice wA wl wc] ∧ (b9 = false → v1 = .slice hA hl hc) ∧ (b9 = true → St [bx] w' (fun V => ∃ A c,v1 = .slice A hl c ∧ SlIs intR V A hl c (r.head.map (mvI pm)))) ∧ (b11 = false → v4 = .slice bA bl bc) ∧ (b11 = true → St [bx] w' (fun V => ∃ A c,v4 = .slice A bl c ∧ SlIs intR V A bl c (r.body.map (mvI pm))))) ∧ (b0 = true → u95 = .func (.func 21) #[] #[.pointer (some ⟨w.heap.size + 1,0,none⟩)]) ∧ (b1 = true → u96 = .pointer (some ⟨bx,1,none⟩)) ∧ (b2 = true → u97 = .slice hA hl hc) ∧ (b3 = true → St [bx] w' (fun V => ∃ A c,u98 = .slice A hl c ∧ SlIs intR V A hl c (r.head.map (mvI pm)))) ∧ (b4 = true → u99 = .func (.func 21) #[] #[.pointer (some ⟨w.heap.size + 1,0,none⟩)]) ∧ (b5 = true → u100 = .pointer (some ⟨bx,4,none⟩)) ∧ (b6 = true → u101 = .slice bA bl bc) ∧ (b7 = true → St [bx] w' (fun V => ∃ A c,u102 = .slice A bl c ∧ SlIs intR V A bl c (r.body.map (mvI pm)))) ∧ (b8 = true → u103 = .pointer (some ⟨bx,1,none⟩)) ∧ (b10 = true → u104 = .pointer (some ⟨bx,4,none⟩)) ∧ (b3 = true → b2 = true) ∧ (b9 = true → b2 = true) ∧ (b7 = true → b6 = true) ∧ (b11 = true → b6 = true)) (by kernel_rfl) ?start ?step ?fin
         case start => exact ⟨false,false,false,false,false,false,false,false,false,false,false,false,_,_,_,_,_,_,_,_,_,_,rfl,rfl,(Kept.refl _ _).drew,⟨_,_,HBX5.out.drew,fun _ => rfl,fun e => (by cases e),fun _ => rfl,fun e => (by cases e)⟩,(by simp),(by simp),(by simp),(by simp),(by simp),(by simp),(by simp),(by simp),(by simp),(by simp),(by simp),(by simp),(by simp),(by simp)⟩
         case step =>
          rintro listed a' w' i o ⟨b0,b1,b2,b3,b4,b5,b6,b7,b8,b9,b10,b11,u95,u96,u97,u98,u99,u100,u101,u102,u103,u104,rfl,rfl,hk0,fB,f0,f1,f2,f3,f4,f5,f6,f7,f8,f10,d3,d9,d7,d11⟩ ho hli hd K hK
          match i,ho,hli,hd with
          | 0,ho,hli,hd =>
           obtain rfl := Option.some.inj ho
           obtain rfl : b0 = false := hli
           go_simp
           exact hK _ _ ⟨_,_,_,_,_,_,_,_,_,_,_,_,_,_,_,_,_,_,_,_,_,_,rfl,rfl,hk0,fB,(fun _ => rfl),f1,f2,f3,f4,f5,f6,f7,f8,f10,d3,d9,d7,d11⟩
          | 1,ho,hli,hd =>
           obtain rfl := Option.some.inj ho
           obtain rfl : b1 = false := hli
           go_simp
           exact hK _ _ ⟨_,_,_,_,_,_,_,_,_,_,_,_,_,_,_,_,_,_,_,_,_,_,rfl,rfl,hk0,fB,f0,(fun _ => rfl),f2,f3,f4,f5,f6,f7,f8,f10,d3,d9,d7,d11⟩
          | 2,ho,hli,hd =>
           obtain rfl := Option.some.inj ho
           obtain rfl : b2 = false := hli
           obtain rfl : b1 = true := hd ⟨1,.data⟩ (by simp) rfl
           obtain rfl := f1 rfl
           have e9 : b9 = false := by
            cases hh : b9 with
            | false => rfl
            | true => have := d9 hh; cases this
           have m1 : w'.cell? ⟨bx,1,none⟩ = some (.slice hA hl hc) := by obtain ⟨v1,v4,hB,a1,-⟩ := fB; rw [a1 e9] at hB; exact hB.cell 1
           go_simp
           exact hK _ _ ⟨_,_,_,_,_,_,_,_,_,_,_,_,_,_,_,_,_,_,_,_,_,_,rfl,rfl,hk0,fB,f0,f1,(fun _ => rfl),f3,f4,f5,f6,f7,f8,f10,(fun _ => rfl),(fun _ => rfl),d7,d11⟩
          | 3,ho,hli,hd =>
           obtain rfl := Option.some.inj ho
           obtain rfl : b3 = false := hli
           obtain rfl : b0 = true := hd ⟨0,.data⟩ (by simp) rfl
           obtain rfl : b2 = true := hd ⟨2,.data⟩ (by simp) rfl
           obtain rfl := f0 rfl
           obtain rfl := f2 rfl
           have hbv := Kept.below HBX4.out hk0 (by omega) (by simp; omega)
           have hltv := hk0.size
           go_simp
           refine (ren1_any (w.heap.size + 1) qA ql qc pm p.n hA hl hc r.head w' (hk0.cell HQ4.out (by simp; omega)) (HQ.out.ext hbv) HPM.out hn1 (G1.out.ext hbv) HHL.out).mono ?_
           rintro e v ⟨A,l',c,rfl,hso,rfl,hfo,hb⟩
           have hk := Kept.of_below hb [bx]
           have hst : St [bx] v (fun V => SlIs intR V A l' c (r.head.map (mvI pm))) := St.ints hso (hfo.off (fun q hq => by simp at hq; omega))
           exact hK _ _ ⟨_,_,_,_,_,_,_,_,_,_,_,_,_,_,_,_,_,_,_,_,_,_,rfl,rfl,(hk0.trans hk),(by obtain ⟨v1,v4,h,a1,a2,a3,a4⟩ := fB; exact ⟨v1,v4,h.bel hb,a1,fun e => (a2 e).go hk,a3,fun e => (a4 e).go hk⟩),f0,f1,f2,(fun _ => hst.imp fun V h => ⟨A,c,rfl,h⟩),f4,f5,f6,(fun e => (f7 e).go hk),f8,f10,(fun _ => rfl),d9,d7,d11⟩
          | 4,ho,hli,hd =>
           obtain rfl := Option.some.inj ho
           obtain rfl : b4 = false := hli
           go_simp
           exact hK _ _ ⟨_,_,_,_,_,_,_,_,_,_,_,_,_,_,_,_,_,_,_,_,_,_,rfl,rfl,hk0,fB,f0,f1,f2,f3,(fun _ => rfl),f5,f6,f7,f8,f10,d3,d9,d7,d11⟩
          | 5,ho,hli,hd =>
           obtain rfl := Option.some.inj ho
           obtain rfl : b5 = false := hli
           go_simp
           exact hK _ _ ⟨_,_,_,_,_,_,_,_,_,_,_,_,_,_,_,_,_,_,_,_,_,_,rfl,rfl,hk0,fB,f0,f1,f2,f3,f4,(fun _ => rfl),f6,f7,f8,f10,d3,d9,d7,d11⟩
          | 6,ho,hli,hd =>
           obtain rfl := Option.some.inj ho
           obtain rfl : b6 = false := hli
           obtain rfl : b5 = true := hd ⟨5,.data⟩ (by simp) rfl
           obtain rfl := f5 rfl
           have e9 : b11 = false := by
            cases hh : b11 with
            | false => rfl
            | true => have := d11 hh; cases this
           have m1 : w'.cell? ⟨bx,4,none⟩ = some (.slice bA bl bc) := by obtain ⟨v1,v4,hB,-,-,a3,-⟩ := fB; rw [a3 e9] at hB; exact hB.cell 4
           go_simp
           exact hK _ _ ⟨_,_,_,_,_,_,_,_,_,_,_,_,_,_,_,_,_,_,_,_,_,_,rfl,rfl,hk0,fB,f0,f1,f2,f3,f4,f5,(fun _ => rfl),f7,f8,f10,d3,d9,(fun _ => rfl),(fun _ => rfl)⟩
          | 7,ho,hli,hd =>
           obtain rfl := Option.some.inj ho
           obtain rfl : b7 = false := hli
           obtain rfl : b4 = true := hd ⟨4,.data⟩ (by simp) rfl
           obtain rfl : b6 = true := hd ⟨6,.data⟩ (by simp) rfl
           obtain rfl := f4 rfl
           obtain rfl := f6 rfl
           have hbv := Kept.below HBX4.out hk0 (by omega) (by simp; omega)
           have hltv := hk0.size
           go_simp
           refine (ren1_any (w.heap.size + 1) qA ql qc pm p.n bA bl bc r.body w' (hk0.cell HQ4.out (by simp; omega)) (HQ.out.ext hbv) HPM.out hn1 (G3.out.ext hbv) HBL.out).mono ?_
           rintro e v ⟨A,l',c,rfl,hso,rfl,hfo,hb⟩
           have hk := Kept.of_below hb [bx]
           have hst : St [bx] v (fun V => SlIs intR V A l' c (r.body.map (mvI pm))) := St.ints hso (hfo.off (fun q hq => by simp at hq; omega))
           exact hK _ _ ⟨_,_,_,_,_,_,_,_,_,_,_,_,_,_,_,_,_,_,_,_,_,_,rfl,rfl,(hk0.trans hk),(by obtain ⟨v1,v4,h,a1,a2,a3,a4⟩ := fB; exact ⟨v1,v4,h.bel hb,a1,fun e => (a2 e).go hk,a3,fun e => (a4 e).go hk⟩),f0,f1,f2,(fun e => (f3 e).go hk),f4,f5,f6,(fun _ => hst.imp fun V h => ⟨A,c,rfl,h⟩),f8,f10,d3,d9,(fun _ => rfl),d11⟩
          | 8,ho,hli,hd =>
           obtain rfl := Option.some.inj ho
           obtain rfl : b8 = false := hli
           go_simp
           exact hK _ _ ⟨_,_,_,_,_,_,_,_,_,_,_,_,_,_,_,_,_,_,_,_,_,_,rfl,rfl,hk0,fB,f0,f1,f2,f3,f4,f5,f6,f7,(fun _ => rfl),f10,d3,d9,d7,d11⟩
          | 9,ho,hli,hd =>
           obtain rfl := Option.some.inj ho
           obtain rfl : b9 = false := hli
           obtain rfl : b3 = true := hd ⟨3,.data⟩ (by simp) rfl
           obtain rfl : b8 = true := hd ⟨8,.data⟩ (by simp) rfl
           obtain rfl := f8 rfl
           have HDD := Lib.hid (d3 rfl)
           clear d3
           obtain ⟨A,c,rfl,-⟩ := (f3 rfl).now
           have hst : St [bx] w' (fun V => SlIs intR V A hl c (r.head.map (mvI pm))) := fun V hV => by obtain ⟨A',c',e1,h⟩ := f3 rfl V hV; cases e1; exact h
           obtain ⟨v1,v4,hB,a1,a2,a3,a4⟩ := fB
           have m1 := hB.cell 1
           have m2 := hB.frozen 1
           have hk : Kept [bx] w' (w'.setCell ⟨bx,1,none⟩ (.slice A hl c)) := (Kept.refl _ _).set (.inl (by simp)) _
           have hB2 := hB.set_ 1 (.slice A hl c)
           go_simp
           exact hK _ _ ⟨_,_,_,_,_,_,_,_,_,_,_,_,_,_,_,_,_,_,_,_,_,_,rfl,rfl,(hk0.trans hk),⟨_,v4,hB2,fun e => (by cases e),fun _ => (hst.go hk).imp fun V h => ⟨A,c,rfl,h⟩,a3,fun e => (a4 e).go hk⟩,f0,f1,f2,(fun e => (f3 e).go hk),f4,f5,f6,(fun e => (f7 e).go hk),f8,f10,(fun _ => HDD.out),(fun _ => HDD.out),d7,d11⟩
          | 10,ho,hli,hd =>
           obtain rfl := Option.some.inj ho
           obtain rfl : b10 = false := hli
           go_simp
           exact hK _ _ ⟨_,_,_,_,_,_,_,_,_,_,_,_,_,_,_,_,_,_,_,_,_,_,rfl,rfl,hk0,fB,f0,f1,f2,f3,f4,f5,f6,f7,f8,(fun _ => rfl),d3,d9,d7,d11⟩
          | 11,ho,hli,hd =>
           obtain rfl := Option.some.inj ho
           obtain rfl : b11 = false := hli
           obtain rfl : b7 = true := hd ⟨7,.data⟩ (by simp) rfl
           obtain rfl : b10 = true := hd ⟨10,.data⟩ (by simp) rfl
           obtain rfl := f10 rfl
           have HDD := Lib.hid (d7 rfl)
           clear d7
           obtain ⟨A,c,rfl,-⟩ := (f7 rfl).now
           have hst : St [bx] w' (fun V => SlIs intR V A bl c (r.body.map (mvI pm))) := fun V hV => by obtain ⟨A',c',e1,h⟩ := f7 rfl V hV; cases e1; exact h
           obtain ⟨v1,v4,hB,a1,a2,a3,a4⟩ := fB
           have m1 := hB.cell 4
           have m2 := hB.frozen 4
           have hk : Kept [bx] w' (w'.setCell ⟨bx,4,none⟩ (.slice A bl c)) := (Kept.refl _ _).set (.inl (by simp)) _
           have hB2 := hB.set_ 4 (.slice A bl c)
           go_simp
           exact hK _ _ ⟨_,_,_,_,_,_,_,_,_,_,_,_,_,_,_,_,_,_,_,_,_,_,rfl,rfl,(hk0.trans hk),⟨v1,_,hB2,a1,fun e => (a2 e).go hk,fun e => (by cases e),fun _ => (hst.go hk).imp fun V h => ⟨A,c,rfl,h⟩⟩,f0,f1,f2,(fun e => (f3 e).go hk),f4,f5,f6,(fun e => (f7 e).go hk),f8,f10,d3,d9,(fun _ => HDD.out),(fun _ => HDD.out)⟩
          | i + 12,ho,hli,hd => simp at ho
         case fin =>
          rintro listed a' w' ⟨b0,b1,b2,b3,b4,b5,b6,b7,b8,b9,b10,b11,u95,u96,u97,u98,u99,u100,u101,u102,u103,u104,rfl,rfl,hk0,fB,f0,f1,f2,f3,f4,f5,f6,f7,f8,f10,d3,d9,d7,d11⟩ hr
          obtain rfl : b0 = true := ready_nil hr (i := 0) rfl (by first | (simp; done) | (simp; intro q; exact absurd q (by decide)))
          obtain rfl : b1 = true := ready_nil hr (i := 1) rfl (by first | (simp; done) | (simp; intro q; exact absurd q (by decide)))
          obtain rfl : b2 = true := ready_nil hr (i := 2) rfl (by first | (simp; done) | (simp; intro q; exact absurd q (by decide)))
          obtain rfl : b3 = true := ready_nil hr (i := 3) rfl (by first | (simp; done) | (simp; intro q; exact absurd q (by decide)))
          obtain rfl : b4 = true := ready_nil hr (i := 4) rfl (by first | (simp; done) | (simp; intro q; exact absurd q (by decide)))
          obtain rfl : b5 = true := ready_nil hr (i := 5) rfl (by first | (simp; done) | (simp; intro q; exact absurd q (by decide)))
          obtain rfl : b6 = true := ready_nil hr (i := 6) rfl (by first | (simp; done) | (simp; intro q; exact absurd q (by decide)))
          obtain rfl : b7 = true := ready_nil hr (i := 7) rfl (by first | (simp; done) | (simp; intro q; exact absurd q (by decide)))
          obtain rfl : b8 = true := ready_nil hr (i := 8) rfl (by first | (simp; done) | (simp; intro q; exact absurd q (by decide)))
          obtain rfl : b9 = true := ready_nil hr (i := 9) rfl (by first | (simp; done) | (simp; intro q; exact absurd q (by decide)))
          obtain rfl : b10 = true := ready_nil hr (i := 10) rfl (by first | (simp; done) | (simp; intro q; exact absurd q (by decide)))
          obtain rfl : b11 = true := ready_nil hr (i := 11) rfl (by first | (simp; done) | (simp; intro q; exact absurd q (by decide)))
          clear hr
          obtain ⟨v1,v4,hBx,-,a2,-,a4⟩ := fB
          obtain ⟨A1,c1,rfl,hh1⟩ := (a2 rfl).now
          obtain ⟨A4,c4,rfl,hh4⟩ := (a4 rfl).now
          clear a2 a4 f0 f1 f2 f3 f4 f5 f6 f7 f8 f10 d3 d9 d7 d11
          have hbv := Kept.below HBX4.out hk0 (by omega) (by simp; omega)
          have hbo2 := Kept.below HBO.out hk0 HBO.out.size (by simp; have := HBXO.out; omega)
          have hs5 := HS.out.ext hbo2
          have hrin : RuleIn w' (mvR (mvI pm) r) A1 hl c1 A4 bl c4 wA wl wc := ⟨hh1,G2.out,hh4,G4.out.ext hbv⟩
          have cN : Calls Tryz.prog 24 #[.agg #[.bool r.choice,.slice A1 hl c1,.bool r.sum,.int .i64 r.bound,.slice A4 bl c4,.slice wA wl wc],.int .i64 p.n] w' _ := norm_any (mvR (mvI pm) r) _ _ _ _ _ _ _ _ _ p.n w' hrin (pre_mv HPM.out HRI_.out)
          rw [HN.out] at cN
          have q0 := hs5.bp.cell 0
          have HK0 := Lib.hid hk0; clear hk0
          have HBX := Lib.hid hBx; clear hBx
          have HBV := Lib.hid hbv; clear hbv
          have HBO2 := Lib.hid hbo2; clear hbo2
          have HS5 := Lib.hid hs5; clear hs5
          have HRIN := Lib.hid hrin; clear hrin
          have CN := Lib.hid cN; clear cN
          have HH1 := Lib.hid hh1; clear hh1
          have HH4 := Lib.hid hh4; clear hh4
          go_wp2_with (refine wpList_load_row (by rfl) 59 _ (by rfl) bx (by rfl) 59 #[.bool r.choice,.slice A1 hl c1,.bool r.sum,.int .i64 r.bound,.slice A4 bl c4,.slice wA wl wc] (0,0) _ HBX.out Tryz.underlying59 rfl info_rule ?_)
          go_fit CN.out; rintro e w6 ⟨hA',hl',hc',bA',bl',bc',wA',wl',wc',he,rin,f1,f2,f3,hb6⟩
          have he' : e = .returned (.tuple #[.agg #[.bool r.choice,.slice hA' hl' hc',.bool r.sum,.int .i64 r.bound,.slice bA' bl' bc',.slice wA' wl' wc'],.int .i64 0]) := he
          clear he q0
          subst he'
          have hs6 := HS5.out.ext hb6
          have hb7 := bel_alloc w6 (.cells #[.bool r.choice,.slice hA' hl' hc',.bool r.sum,.int .i64 r.bound,.slice bA' bl' bc',.slice wA' wl' wc'] 59)
          have b7 : Blk (w6.alloc (.cells #[.bool r.choice,.slice hA' hl' hc',.bool r.sum,.int .i64 r.bound,.slice bA' bl' bc',.slice wA' wl' wc'] 59)) w6.heap.size 59 #[.bool r.choice,.slice hA' hl' hc',.bool r.sum,.int .i64 r.bound,.slice bA' bl' bc',.slice wA' wl' wc'] := blk_new rfl _ _
          have hs7 := hs6.ext hb7
          have hof : ∀ q ∈ S ++ ownL (.slice rvA i rvc),q < w'.heap.size := fun q hq => by
           rcases List.mem_append.1 hq with h1 | h1
           ·exact HS5.out.lt q h1
           ·exact HS5.out.lt q (HS5.out.rS q (ownL_mem.1 h1))
          have hel : Stab ruleR (S ++ ownL (.slice rvA i rvc)) (w6.alloc (.cells #[.bool r.choice,.slice hA' hl' hc',.bool r.sum,.int .i64 r.bound,.slice bA' bl' bc',.slice wA' wl' wc'] 59)) [.bool r.choice,.slice hA' hl' hc',.bool r.sum,.int .i64 r.bound,.slice bA' bl' bc',.slice wA' wl' wc'] (normR (mvR (mvI pm) r)) :=
           Stab.rule (r := normR (mvR (mvI pm) r)) (StabS.ints (rin.head.ext hb7) (f1.off hof)) rin.bound (StabS.ints (rin.body.ext hb7) (f2.off hof)) (StabS.ints (rin.wt.ext hb7) (f3.off hof))
          obtain ⟨v',w8,hrun,ro,hg,hat⟩ := hs7.rr.app1 ety_rule _ _ hel (by rw [HL0.out]; omega) 24
          obtain ⟨vA,vc,rfl,-⟩ := ro.sl (by rw [List.length_append,HL0.out]; simp; omega)
          have hX8 := hs7.rules ro hg hat
          have hL1 : ((p.rules.take i).map (fun r => normR (mvR (mvI pm) r)) ++ [normR (mvR (mvI pm) r)]).length = i + 1 := by rw [List.length_append,HL0.out]; rfl
          rw [hL1] at hrun hX8 hat ro
          clear hL1
          have hst : (p.rules.take i).map (fun r => normR (mvR (mvI pm) r)) ++ [normR (mvR (mvI pm) r)] = (p.rules.take (i + 1)).map (fun r => normR (mvR (mvI pm) r)) := by
           rw [List.take_add_one,HRI.out,List.map_append]; rfl
          rw [hst] at hX8
          have hz4 : (w6.alloc (.cells #[.bool r.choice,.slice hA' hl' hc',.bool r.sum,.int .i64 r.bound,.slice bA' bl' bc',.slice wA' wl' wc'] 59)).heap.size = w6.heap.size + 1 := by simp
          rw [hz4] at hrun
          have q3 := hs7.bx.cell 3
          have hc5 : w8.cell? ⟨g,3,none⟩ = some (.slice rvA i rvc) := ((grown_kept hg).blk hs7.bx (fun e => hs7.rr.offBlk hs7.bx (by decide) (by simpa using e))).cell 3
          have hf5 : w8.frozen? ⟨g,3,none⟩ = false := ((grown_kept hg).blk hs7.bx (fun e => hs7.rr.offBlk hs7.bx (by decide) (by simpa using e))).frozen 3
          clear hs6 hb7 hs7 hof hel ro hg hat rin f1 f2 f3 hb6 hst
          have B7 := Lib.hid b7; clear b7
          have HRUN := Lib.hid hrun; clear hrun
          have HX8 := Lib.hid hX8; clear hX8
          go_wp2_with (first
           | (refine wpList_load_row (by rfl) 59 _ (by rfl) w6.heap.size (by rfl) 59 #[.bool r.choice,.slice hA' hl' hc',.bool r.sum,.int .i64 r.bound,.slice bA' bl' bc',.slice wA' wl' wc'] (0,0) _ B7.out Tryz.underlying59 rfl info_rule ?_)
           | (at_builtin; refine wpList_append_run rfl _ _ _ rfl _ _ rfl rfl _ _ HRUN.out ?_))
          go_roundw
          case rel => exact ⟨i + 1,_,_,by omega,by go_num,HX8.out⟩
          case measure => simp [intOf]; omega
        ·have hil : rl = i := by omega
         subst hil
         rw [List.take_of_length_le (show p.rules.length ≤ rl by have := HRL.out; omega)] at hs
         have q1 := hs.bp.cell 4
         obtain ⟨RSL,hRSL⟩ : ∃ RSL,RSL = p.rules.map (fun r => normR (mvR (mvI pm) r)) := ⟨_,rfl⟩
         rw [← hRSL] at hs
         have hrl2 : RSL.length = rl := by rw [hRSL,List.length_map]; exact HRL.out.symm
         obtain ⟨S3,hS3⟩ : ∃ S3,S3 = S := ⟨_,rfl⟩
         rw [← hS3] at hs
         have HRSL := Lib.hid hRSL; clear hRSL
         have HS := Lib.hid hs; clear hs
         have HRL2 := Lib.hid hrl2; clear hrl2
         go_wp2_with fail
         clear q1
         go_loopw [122] (fun t wr => ∃ (i : Nat) (mv : Value) (S : List Nat),i ≤ ml ∧ t = .int .i64 (i : Int) ∧ RenS w #[.int .i64 (ql : Int),.slice nA ql nc,.slice sA sl sc,.slice rA rl rc,.slice mA ml mc] #[.slice qA ql qc] (ql : Int) g S (.slice (some ⟨k,0,none⟩) ql ql) (.slice A2 l2 c2) (.slice rvA rl rvc) mv NS SH RSL ((p.min.take i).map (mvM pm)) wr) (fun t _ => ml - (intOf t).toNat)
         case atStart => exact ⟨0,_,_,Nat.zero_le _,rfl,by simpa using HS.out⟩
         case round =>
          clear HS
          obtain ⟨i,mv,S,hi,rfl,hs⟩ := hrel
          obtain ⟨wp,rfl⟩ : ∃ wp : World,wp = wr := ⟨_,rfl⟩
          have hL0 : ((p.min.take i).map (mvM pm)).length = i := by rw [List.length_map,List.length_take]; have := HMN.out; omega
          obtain ⟨mvA,mvc,hmv,-⟩ := hs.rm.sl (by rw [hL0]; omega)
          rw [hL0] at hmv
          subst hmv
          have HL0 := Lib.hid hL0; clear hL0
          by_cases hlt : i < ml
          ·obtain ⟨m,hmi,-⟩ := HP.out.min.drop hlt
           obtain ⟨bb2,off2,bA,bl,bc,wA,wl,wc,rfl,hbl2,x0,x1,x2,l64,g1,g2⟩ := HP.out.min.min hmi
           have d0 := (hs.bel.cell (World.block_lt_of_cell? _ _ x0)).trans x0
           have d1 := (hs.bel.cell (World.block_lt_of_cell? _ _ x1)).trans x1
           have d2 := (hs.bel.cell (World.block_lt_of_cell? _ _ x2)).trans x2
           clear x0 x1 x2
           have k0 : (0 : Int) ≤ (i : Int) := by omega
           have k1' : (i : Int) < (ml : Int) := by omega
           have hmo := minGo_mem _ _ HIS.out.min m (List.mem_of_getElem? hmi)
           unfold minOk at hmo
           simp only [Bool.and_eq_true] at hmo
           have hlt2 : ∀ x ∈ m.lits,litB x p.n = true := ord_lit hmo.1.1.1
           have hlb := ordB_len hn0 hmo.1.1.1
           have hwt := hmo.1.1.2
           unfold wtB at hwt
           rw [Bool.and_eq_true,decide_eq_true_eq] at hwt
           have hw0 := wtGo_spec m.w 0 (by omega) (by omega) hwt.1
           have hwb : wl = bl := by rw [g1.len,g2.len]; exact hwt.2
           have hbl8 : bl ≤ 8000 := by have := g1.len; omega
           have hbc := g1.cap
           have hbm := g1.max
           have hwc := g2.cap
           have hwm := g2.max
           have hl63 : ∀ x ∈ m.lits.map (mvI pm),-9223372036854775807 ≤ x := fun x hx => by
            obtain ⟨y,hy,rfl⟩ := List.mem_map.1 hx
            have := litB_iff.1 (mv_lit HPM.out (hlt2 y hy)); omega
           have HHB := Lib.hid hwb
           obtain ⟨X5,hX5⟩ : ∃ X5,X5 = wp.alloc (.cells #[.int .i64 m.level,.slice bA bl bc,.slice wA wl wc] 63) := ⟨_,rfl⟩
           obtain ⟨bm,hbmE⟩ : ∃ bm,bm = wp.heap.size := ⟨_,rfl⟩
           have hbo : Below wp.heap.size wp X5 := by rw [hX5]; exact bel_alloc _ _
           have hbm5 : Blk X5 bm 63 #[.int .i64 m.level,.slice bA bl bc,.slice wA wl wc] := by rw [hX5,hbmE]; exact blk_new rfl _ _
           have hbx5 := bel_trans hs.bel hbo
           have hq5 := (hs.ext hbo).bq.cell 0
           have hs5 := hs.ext hbo
           have hb5l := hbx5.size
           have hs5l := hbo.size
           clear hwb
           have HMI := Lib.hid hmi; clear hmi
           have G1 := Lib.hid g1; clear g1
           have G2 := Lib.hid g2; clear g2
           have HMO := Lib.hid hmo; clear hmo
           have HBO := Lib.hid hbo; clear hbo
           have HBM5 := Lib.hid hbm5; clear hbm5
           have HBX5 := Lib.hid hbx5; clear hbx5
           have HQ5 := Lib.hid hq5; clear hq5
           have HS := Lib.hid hs; clear hs
           have HS5 := Lib.hid hs5; clear hs5
           have HW0 := Lib.hid hw0; clear hw0
           have HL63 := Lib.hid hl63; clear hl63
           have HWT := Lib.hid hwt; clear hwt
           have L64 := Lib.hid l64; clear l64
           have HLT := Lib.hid hlt2
           clear hlt2 hlb
           go_wp2_with fail
           rw [← hX5,← hbmE]
           clear hX5 hbmE d0 d1 d2
           refine wp_region_inv (fun listed a' w' => ∃ (b0 b1 b2 b3 b4 b5 b6 b7 b8 b9 b10 b11 : Bool) (u20 u21 u126 u127 u128 u129 u130 u131 u132 u133 u134 u135 : Value),listed = #[b0,b1,b2,b3,b4,b5,b6,b7,b8,b9,b10,b11] ∧ a' = { tmps := #[.agg #[.int .i64 (ql : Int),.slice nA ql nc,.slice sA sl sc,.slice rA rl rc,.slice (some ⟨bb2,off2,none⟩) ml mc],.slice qA ql qc,.pointer (some ⟨w.heap.size,0,none⟩),.pointer (some ⟨w.heap.size + 1,0,none⟩),.pointer (some ⟨w.heap.size + 1 + 1,0,none⟩),u5,.int .i64 0,.slice A ql c,u8,u9,Value.func (Fn.func 21) #[] #[.pointer (some ⟨w.heap.size + 1,0,none⟩)],.pointer (some ⟨g,0,none⟩),u12,u13,undef,u15,u16,u17,undef,.pointer (some ⟨bm,0,none⟩),u20,u21,.agg #[.int .i64 (ql : Int),.slice nA ql nc,.slice sA sl sc,.slice rA rl rc,.slice (some ⟨bb2,off2,none⟩) ml mc],.int .i64 0,.int .i64 0,.bool false,undef,undef,.slice qA ql qc,Value.func (Fn.func 39) #[] #[.pointer (some ⟨w1.heap.size,0,none⟩)],.slice A ql c,.slice A ql c,.int .i64 (ql : Int),.int .i64 (ql : Int),.bool false,u35,u36,u37,u38,u39,u40,u41,u42,u43,.slice qA ql qc,.int .i64 (ql : Int),.pointer (some ⟨w.heap.size,0,none⟩),.int .i64 (ql : Int),.bool false,undef,Value.func (Fn.func 21) #[] #[.pointer (some ⟨w.heap.size + 1,0,none⟩)],u51,u52,u53,u54,u55,u56,.pointer (some ⟨w.heap.size,1,none⟩),.slice nA ql nc,.int .i64 (ql : Int),.int .i64 (ql : Int),.bool false,u62,u63,u64,u65,u66,u67,u68,u69,u70,u71,u72,u73,u74,u75,u76,u77,u78,u79,u80,u81,u82,u83,u84,u85,u86,u87,.pointer (some ⟨w.heap.size,3,none⟩),.slice rA rl rc,.int .i64 (rl : Int),.int .i64 (rl : Int),.bool false,u93,u94,u95,u96,u97,u98,u99,u100,u101,u102,u103,u104,u105,u106,u107,u108,u109,u110,u111,u112,u113,u114,u115,u116,u117,u118,.pointer (some ⟨w.heap.size,4,none⟩),.slice (some ⟨bb2,off2,none⟩) ml mc,.int .i64 (ml : Int),.int .i64 (i : Int),.bool true,.pointer (some ⟨bb2,off2 + i * 3,none⟩),.agg #[.int .i64 m.level,.slice bA bl bc,.slice wA wl wc],u126,u127,u128,u129,u130,u131,u132,u133,u134,u135,u136,u137,u138,u139,u140,u141,u142,u143,u144,u145,u146,undef],defers := [] } ∧ (Kept [] X5 w') ∧ (b0 = true → u127 = .func (.func 21) #[] #[.pointer (some ⟨w.heap.size + 1,0,none⟩)]) ∧ (b1 = true → u128 = .pointer (some ⟨bm,1,none⟩)) ∧ (b2 = true → u129 = .slice bA bl bc) ∧ (b3 = true → St [] w' (fun V => ∃ A c,u130 = .slice A bl c ∧ SlIs intR V A bl c (m.lits.map (mvI pm)))) ∧ (b4 = true → u131 = .pointer (some ⟨bm,2,none⟩)) ∧ (b5 = true → u132 = .slice wA wl wc) ∧ (b6 = true → St [] w' (fun V => ∃ A l c D i q,u133 = .tuple #[.slice A l c,.slice D i q] ∧ SlIs intR V A l c (litsOf (m.lits.map (mvI pm))) ∧ SlIs intR V D i q ((litsOf (m.lits.map (mvI pm))).map (totP ((m.lits.map (mvI pm)).zip m.w))) ∧ Frs X5.heap.size A l ∧ Frs X5.heap.size D i)) ∧ (b7 = true → St [] w' (fun V => ∃ A l c D i q,u126 = .tuple #[.slice A l c,.slice D i q] ∧ SlIs intR V A l c (litsOf (m.lits.map (mvI pm))) ∧ SlIs intR V D i q ((litsOf (m.lits.map (mvI pm))).map (totP ((m.lits.map (mvI pm)).zip m.w))) ∧ Frs X5.heap.size A l ∧ Frs X5.heap.size D i)) ∧ (b8 = true → St [] w' (fun V => ∃ A l c,u134 = .slice A l c ∧ SlIs intR V A l c (litsOf (m.lits.map (mvI pm))) ∧ Frs X5.heap.size A l)) ∧ (b9 = true → St [] w' (fun V => ∃ A l c,u135 = .slice A l c ∧ SlIs intR V A l c ((litsOf (m.lits.map (mvI pm))).map (totP ((m.lits.map (mvI pm)).zip m.w))) ∧ Frs X5.heap.size A l)) ∧ (b10 = true → St [] w' (fun V => ∃ A l c,u20 = .slice A l c ∧ SlIs intR V A l c (litsOf (m.lits.map (mvI pm))) ∧ Frs X5.heap.size A l)) ∧ (b11 = true → St [] w' (fun V => ∃ A l c,u21 = .slice A l c ∧ SlIs intR V A l c ((litsOf (m.lits.map (mvI pm))).map (totP ((m.lits.map (mvI pm)).zip m.w))) ∧ Frs X5.heap.size A l))) (by kernel_rfl) ?start ?step ?fin
           case start => exact ⟨false,false,false,false,false,false,false,false,false,false,false,false,_,_,_,_,_,_,_,_,_,_,_,_,rfl,rfl,(Kept.refl _ _).drew,(by simp),(by simp),(by simp),(by simp),(by simp),(by simp),(by simp),(by simp),(by simp),(by simp),(by simp),(by simp)⟩
           case step =>
            rintro listed a' w' i o ⟨b0,b1,b2,b3,b4,b5,b6,b7,b8,b9,b10,b11,u20,u21,u126,u127,u128,u129,u130,u131,u132,u133,u134,u135,rfl,rfl,hk0,f0,f1,f2,f3,f4,f5,f6,f7,f8,f9,f10,f11⟩ ho hli hd K hK
            match i,ho,hli,hd with
            | 0,ho,hli,hd =>
             obtain rfl := Option.some.inj ho
             obtain rfl : b0 = false := hli
             go_simp
             exact hK _ _ ⟨_,_,_,_,_,_,_,_,_,_,_,_,_,_,_,_,_,_,_,_,_,_,_,_,rfl,rfl,hk0,(fun _ => rfl),f1,f2,f3,f4,f5,f6,f7,f8,f9,f10,f11⟩
            | 1,ho,hli,hd =>
             obtain rfl := Option.some.inj ho
             obtain rfl : b1 = false := hli
             go_simp
             exact hK _ _ ⟨_,_,_,_,_,_,_,_,_,_,_,_,_,_,_,_,_,_,_,_,_,_,_,_,rfl,rfl,hk0,f0,(fun _ => rfl),f2,f3,f4,f5,f6,f7,f8,f9,f10,f11⟩
            | 2,ho,hli,hd =>
             obtain rfl := Option.some.inj ho
             obtain rfl : b2 = false := hli
             obtain rfl : b1 = true := hd ⟨1,.data⟩ (by simp) rfl
             obtain rfl := f1 rfl
             have m1 : w'.cell? ⟨bm,1,none⟩ = some (.slice bA bl bc) := (hk0.blk HBM5.out (by simp)).cell 1
             go_simp
             exact hK _ _ ⟨_,_,_,_,_,_,_,_,_,_,_,_,_,_,_,_,_,_,_,_,_,_,_,_,rfl,rfl,hk0,f0,f1,(fun _ => rfl),f3,f4,f5,f6,f7,f8,f9,f10,f11⟩
            | 3,ho,hli,hd =>
             obtain rfl := Option.some.inj ho
             obtain rfl : b3 = false := hli
             obtain rfl : b0 = true := hd ⟨0,.data⟩ (by simp) rfl
             obtain rfl : b2 = true := hd ⟨2,.data⟩ (by simp) rfl
             obtain rfl := f0 rfl
             obtain rfl := f2 rfl
             have hbv := Kept.below HBX5.out hk0 (by omega) (by simp)
             have hltv := hk0.size
             go_simp
             refine (ren1_any (w.heap.size + 1) qA ql qc pm p.n bA bl bc m.lits w' (hk0.cell HQ5.out (by simp)) (HQ.out.ext hbv) HPM.out hn1 (G1.out.ext hbv) HLT.out).mono ?_
             rintro e v ⟨A,l',c,rfl,hso,rfl,hfo,hb⟩
             have hk := Kept.of_below hb []
             have hst : St [] v (fun V => SlIs intR V A l' c (m.lits.map (mvI pm))) := St.ints hso (fun _ _ _ h => by cases h)
             exact hK _ _ ⟨_,_,_,_,_,_,_,_,_,_,_,_,_,_,_,_,_,_,_,_,_,_,_,_,rfl,rfl,(hk0.trans hk),f0,f1,f2,(fun _ => hst.imp fun V h => ⟨A,c,rfl,h⟩),f4,f5,(fun e => (f6 e).go hk),(fun e => (f7 e).go hk),(fun e => (f8 e).go hk),(fun e => (f9 e).go hk),(fun e => (f10 e).go hk),(fun e => (f11 e).go hk)⟩
            | 4,ho,hli,hd =>
             obtain rfl := Option.some.inj ho
             obtain rfl : b4 = false := hli
             go_simp
             exact hK _ _ ⟨_,_,_,_,_,_,_,_,_,_,_,_,_,_,_,_,_,_,_,_,_,_,_,_,rfl,rfl,hk0,f0,f1,f2,f3,(fun _ => rfl),f5,f6,f7,f8,f9,f10,f11⟩
            | 5,ho,hli,hd =>
             obtain rfl := Option.some.inj ho
             obtain rfl : b5 = false := hli
             obtain rfl : b4 = true := hd ⟨4,.data⟩ (by simp) rfl
             obtain rfl := f4 rfl
             have m1 : w'.cell? ⟨bm,2,none⟩ = some (.slice wA wl wc) := (hk0.blk HBM5.out (by simp)).cell 2
             go_simp
             exact hK _ _ ⟨_,_,_,_,_,_,_,_,_,_,_,_,_,_,_,_,_,_,_,_,_,_,_,_,rfl,rfl,hk0,f0,f1,f2,f3,f4,(fun _ => rfl),f6,f7,f8,f9,f10,f11⟩
            | 6,ho,hli,hd =>
             obtain rfl := Option.some.inj ho
             obtain rfl : b6 = false := hli
             obtain rfl : b3 = true := hd ⟨3,.data⟩ (by simp) rfl
             obtain rfl : b5 = true := hd ⟨5,.data⟩ (by simp) rfl
             obtain ⟨A,c,rfl,hs3⟩ := (f3 rfl).now
             obtain rfl := f5 rfl
             have hbv := Kept.below HBX5.out hk0 (by omega) (by simp)
             have hltv := hk0.size
             go_simp
             refine (sorted_any A bl c wA wl wc (m.lits.map (mvI pm)) m.w w' hs3 (G2.out.ext hbv) HHB.out (by omega) HL63.out HW0.out.1 (by have := HW0.out.2; omega)).mono ?_
             rintro e v ⟨B,l,c',D,i,q,rfl,hso,htw,hfo,hft,hb⟩
             have hk := Kept.of_below hb []
             have hst : St [] v (fun V => SlIs intR V B l c' (litsOf (m.lits.map (mvI pm))) ∧ SlIs intR V D i q ((litsOf (m.lits.map (mvI pm))).map (totP ((m.lits.map (mvI pm)).zip m.w)))) := fun V hV => ⟨hso.keptM hV (fun _ _ _ h => by cases h),htw.keptM hV (fun _ _ _ h => by cases h)⟩
             exact hK _ _ ⟨_,_,_,_,_,_,_,_,_,_,_,_,_,_,_,_,_,_,_,_,_,_,_,_,rfl,rfl,(hk0.trans hk),f0,f1,f2,(fun e => (f3 e).go hk),f4,f5,(fun _ => hst.imp fun V h => ⟨B,l,c',D,i,q,rfl,h.1,h.2,hfo.mono (by omega),hft.mono (by omega)⟩),(fun e => (f7 e).go hk),(fun e => (f8 e).go hk),(fun e => (f9 e).go hk),(fun e => (f10 e).go hk),(fun e => (f11 e).go hk)⟩
            | 7,ho,hli,hd =>
             obtain rfl := Option.some.inj ho
             obtain rfl : b7 = false := hli
             obtain rfl : b6 = true := hd ⟨6,.data⟩ (by simp) rfl
             go_simp
             exact hK _ _ ⟨_,_,_,_,_,_,_,_,_,_,_,_,_,_,_,_,_,_,_,_,_,_,_,_,rfl,rfl,hk0,f0,f1,f2,f3,f4,f5,f6,(fun _ => f6 rfl),f8,f9,f10,f11⟩
            | 8,ho,hli,hd =>
             obtain rfl := Option.some.inj ho
             obtain rfl : b8 = false := hli
             obtain rfl : b7 = true := hd ⟨7,.data⟩ (by simp) rfl
             obtain ⟨A,l,c,D,i,q,rfl,-⟩ := (f7 rfl).now
             go_simp
             exact hK _ _ ⟨_,_,_,_,_,_,_,_,_,_,_,_,_,_,_,_,_,_,_,_,_,_,_,_,rfl,rfl,hk0,f0,f1,f2,f3,f4,f5,f6,f7,(fun _ => (f7 rfl).imp fun V h => by obtain ⟨A',l',c',D',i',q',e1,h1,h2,h3,h4⟩ := h; cases e1; exact ⟨_,_,_,rfl,h1,h3⟩),f9,f10,f11⟩
            | 9,ho,hli,hd =>
             obtain rfl := Option.some.inj ho
             obtain rfl : b9 = false := hli
             obtain rfl : b7 = true := hd ⟨7,.data⟩ (by simp) rfl
             obtain ⟨A,l,c,D,i,q,rfl,-⟩ := (f7 rfl).now
             go_simp
             exact hK _ _ ⟨_,_,_,_,_,_,_,_,_,_,_,_,_,_,_,_,_,_,_,_,_,_,_,_,rfl,rfl,hk0,f0,f1,f2,f3,f4,f5,f6,f7,f8,(fun _ => (f7 rfl).imp fun V h => by obtain ⟨A',l',c',D',i',q',e1,h1,h2,h3,h4⟩ := h; cases e1; exact ⟨_,_,_,rfl,h2,h4⟩),f10,f11⟩
            | 10,ho,hli,hd =>
             obtain rfl := Option.some.inj ho
             obtain rfl : b10 = false := hli
             obtain rfl : b8 = true := hd ⟨8,.data⟩ (by simp) rfl
             go_simp
             exact hK _ _ ⟨_,_,_,_,_,_,_,_,_,_,_,_,_,_,_,_,_,_,_,_,_,_,_,_,rfl,rfl,hk0,f0,f1,f2,f3,f4,f5,f6,f7,f8,f9,(fun _ => f8 rfl),f11⟩
            | 11,ho,hli,hd =>
             obtain rfl := Option.some.inj ho
             obtain rfl : b11 = false := hli
             obtain rfl : b9 = true := hd ⟨9,.data⟩ (by simp) rfl
             go_simp
             exact hK _ _ ⟨_,_,_,_,_,_,_,_,_,_,_,_,_,_,_,_,_,_,_,_,_,_,_,_,rfl,rfl,hk0,f0,f1,f2,f3,f4,f5,f6,f7,f8,f9,f10,(fun _ => f9 rfl)⟩
            | i + 12,ho,hli,hd => simp at ho
           case fin =>
            rintro listed a' w' ⟨b0,b1,b2,b3,b4,b5,b6,b7,b8,b9,b10,b11,u20,u21,u126,u127,u128,u129,u130,u131,u132,u133,u134,u135,rfl,rfl,hk0,f0,f1,f2,f3,f4,f5,f6,f7,f8,f9,f10,f11⟩ hr
            obtain rfl : b0 = true := ready_nil hr (i := 0) rfl (by first | (simp; done) | (simp; intro q; exact absurd q (by decide)))
            obtain rfl : b1 = true := ready_nil hr (i := 1) rfl (by first | (simp; done) | (simp; intro q; exact absurd q (by decide)))
            obtain rfl : b2 = true := ready_nil hr (i := 2) rfl (by first | (simp; done) | (simp; intro q; exact absurd q (by decide)))
            obtain rfl : b3 = true := ready_nil hr (i := 3) rfl (by first | (simp; done) | (simp; intro q; exact absurd q (by decide)))
            obtain rfl : b4 = true := ready_nil hr (i := 4) rfl (by first | (simp; done) | (simp; intro q; exact absurd q (by decide)))
            obtain rfl : b5 = true := ready_nil hr (i := 5) rfl (by first | (simp; done) | (simp; intro q; exact absurd q (by decide)))
            obtain rfl : b6 = true := ready_nil hr (i := 6) rfl (by first | (simp; done) | (simp; intro q; exact absurd q (by decide)))
            obtain rfl : b7 = true := ready_nil hr (i := 7) rfl (by first | (simp; done) | (simp; intro q; exact absurd q (by decide)))
            obtain rfl : b8 = true := ready_nil hr (i := 8) rfl (by first | (simp; done) | (simp; intro q; exact absurd q (by decide)))
            obtain rfl : b9 = true := ready_nil hr (i := 9) rfl (by first | (simp; done) | (simp; intro q; exact absurd q (by decide)))
            obtain rfl : b10 = true := ready_nil hr (i := 10) rfl (by first | (simp; done) | (simp; intro q; exact absurd q (by decide)))
            obtain rfl : b11 = true := ready_nil hr (i := 11) rfl (by first | (simp; done) | (simp; intro q; exact absurd q (by decide)))
            clear hr
            obtain ⟨L1,n1,p1,rfl,hh1,hf1⟩ := (f10 rfl).now
            obtain ⟨L2,n2,p2,rfl,hh2,hf2⟩ := (f11 rfl).now
            clear f0 f1 f2 f3 f4 f5 f6 f7 f8 f9 f10 f11
            have hbv := Kept.below HBX5.out hk0 (by omega) (by simp)
            have hb6 : Below X5.heap.size X5 w' := hk0.bel0
            have hs6 := HS5.out.ext hb6
            have hb7 := bel_alloc w' (.cells #[.int .i64 m.level,.slice L1 n1 p1,.slice L2 n2 p2] 63)
            have hs7 := hs6.ext hb7
            have hof : ∀ q ∈ S ++ ownL (.slice mvA i mvc),q < X5.heap.size := fun q hq => by
             rcases List.mem_append.1 hq with h1 | h1
             ·exact HS5.out.lt q h1
             ·exact HS5.out.lt q (HS5.out.mS q (ownL_mem.1 h1))
            have hel : Stab minR (S ++ ownL (.slice mvA i mvc)) w' [.int .i64 m.level,.slice L1 n1 p1,.slice L2 n2 p2] (mvM pm m) :=
             Stab.level (r := mvM pm m) L64.out (StabS.ints hh1 (hf1.off hof)) (StabS.ints hh2 (hf2.off hof))
            obtain ⟨v',w8,hrun,ro,hg,hat⟩ := hs6.rm.app1 ety_min _ _ hel (by rw [HL0.out]; omega) 25
            obtain ⟨vA,vc,rfl,-⟩ := ro.sl (by rw [List.length_append,HL0.out]; simp; omega)
            have hX8 := hs6.levels ro hg hat
            have hL1 : ((p.min.take i).map (mvM pm) ++ [mvM pm m]).length = i + 1 := by rw [List.length_append,HL0.out]; rfl
            rw [hL1] at hrun hX8 hat ro
            clear hL1
            have hst : (p.min.take i).map (mvM pm) ++ [mvM pm m] = (p.min.take (i + 1)).map (mvM pm) := by
             rw [List.take_add_one,HMI.out,List.map_append]; rfl
            rw [hst] at hX8
            have q3 := hs6.bx.cell 4
            have q4 := (hk0.blk HBM5.out (by simp)).cell 0
            have hc5 : w8.cell? ⟨g,4,none⟩ = some (.slice mvA i mvc) := ((grown_kept hg).blk hs6.bx (fun e => hs6.rm.offBlk hs6.bx (by decide) (by simpa using e))).cell 4
            have hf5 : w8.frozen? ⟨g,4,none⟩ = false := ((grown_kept hg).blk hs6.bx (fun e => hs6.rm.offBlk hs6.bx (by decide) (by simpa using e))).frozen 4
            clear hb7 hs7 hof hel ro hg hat hh1 hh2 hf1 hf2 hst hb6 hs6
            have HRUN := Lib.hid hrun; clear hrun
            have HX8 := Lib.hid hX8; clear hX8
            have HK0 := Lib.hid hk0; clear hk0
            have HBV := Lib.hid hbv; clear hbv
            go_wp2_with (at_builtin; refine wpList_append_run rfl _ _ _ rfl _ _ rfl rfl _ _ HRUN.out ?_)
            go_roundw
            case rel => exact ⟨i + 1,_,_,by omega,by go_num,HX8.out⟩
            case measure => simp [intOf]; omega
          ·have hil : ml = i := by omega
           subst hil
           rw [List.take_of_length_le (show p.min.length ≤ ml by have := HMN.out; omega)] at hs
           have hNSl : NS.length = ql := by rw [HNS.out,mvNgo_len,List.length_replicate]
           have hlast := hs.last #[.int .i64 (ql : Int),(.slice (some ⟨k,0,none⟩) ql ql),(.slice A2 l2 c2),(.slice rvA rl rvc),.slice mvA ml mvc] (by rw [hNSl]; omega) (by rw [HRL2.out]; omega) (by rw [List.length_map]; have := HMN.out; omega)
           obtain ⟨nA',nc',sA',sc',rA',rc',mA',mc',e1,e2,e3,e4,j1,j2,j3,j4,j5⟩ := hlast
           have hfz := hs.be.row #[.int .i64 (ql : Int),(.slice (some ⟨k,0,none⟩) ql ql),(.slice A2 l2 c2),(.slice rvA rl rvc),.slice mvA ml mvc]
           have hbx := hs.bx
           have hbe := hs.be
           have HS := Lib.hid hs; clear hs
           have HFZ := Lib.hid hfz; clear hfz
           have HBX := Lib.hid hbx; clear hbx
           have HBE := Lib.hid hbe; clear hbe
           have E1 := Lib.hid e1; clear e1
           have E2 := Lib.hid e2; clear e2
           have E3 := Lib.hid e3; clear e3
           have E4 := Lib.hid e4; clear e4
           have J1 := Lib.hid j1; clear j1
           have J2 := Lib.hid j2; clear j2
           have J3 := Lib.hid j3; clear j3
           have J4 := Lib.hid j4; clear j4
           have J5 := Lib.hid j5; clear j5
           have HNSL := Lib.hid hNSl; clear hNSl
           go_wp2_with (first
            | (refine wpList_load_row (by rfl) 27 _ (by rfl) g (by rfl) 27 #[.int .i64 (ql : Int),(.slice (some ⟨k,0,none⟩) ql ql),(.slice A2 l2 c2),(.slice rvA rl rvc),.slice mvA ml mvc] (0,0) _ HBX.out Tryz.underlying27 rfl info_prog' ?_)
            | (refine wpList_store_row (by rfl) 27 _ _ (by rfl) (w.heap.size + 1 + 1) #[.int .i64 (ql : Int),(.slice (some ⟨k,0,none⟩) ql ql),(.slice A2 l2 c2),(.slice rvA rl rvc),.slice mvA ml mvc] (by rfl) (by rfl) 27 _ HBE.out info_prog' (by rfl) (by simp [Value.oneCell']) ?_))
           refine bodyPost_ret (results_row_tmp rfl _ _ (w.heap.size + 1 + 1) 27 #[.int .i64 (ql : Int),(.slice (some ⟨k,0,none⟩) ql ql),(.slice A2 l2 c2),(.slice rvA rl rvc),.slice mvA ml mvc] _ (.int .i64 0) rfl rfl HFZ.out Tryz.underlying27 rfl info_prog') rfl ?_
           have a1 := E1.out; have a2 := E2.out; have a3 := E3.out; have a4 := E4.out
           injection a1 with a11 a12 a13
           injection a2 with a21 a22 a23
           injection a3 with a31 a32 a33
           injection a4 with a41 a42 a43
           have b1 := J1.out; have b2 := J2.out; have b3 := J3.out; have b4 := J4.out
           rw [← a11,← a12,← a13] at b1
           rw [← a21,← a22,← a23] at b2
           rw [← a31,← a32,← a33] at b3
           rw [← a41,← a42,← a43] at b4
           have hN64 : I64 p.n := by unfold I64; omega
           have hmvN : NS = mvN pm p.names := by rw [HNS.out]; unfold mvN; rw [← HNL.out]
           rw [hmvN] at b1
           rw [HSH.out] at b2
           rw [HRSL.out] at b3
           exact ⟨_,_,_,_,_,_,_,_,_,_,_,_,rfl,⟨hN64,b1,b2,b3,b4⟩,J5.out⟩
end Go.Proofs.YtbfbkpoakmnlpaaGreat

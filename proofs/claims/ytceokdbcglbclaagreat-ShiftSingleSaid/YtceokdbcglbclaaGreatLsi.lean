/- The law ShiftSingle: it answers true and changes nothing that was there. -/
import Derived.Test.YtceokdbcglbclaaGreatGSd
import Derived.Test.YtceokdbcglbclaaGreatG4
import Derived.Test.YtceokdbcglbclaaGreatGsm
import Derived.Test.YtceokdbcglbclaaGreatShn
namespace Go.Proofs.YtceokdbcglbclaaGreat
open Go.RowKit
theorem few_small2 {p : GProg} (hf : fewB p = true) : p.n ≤ 12 ∧ p.rules.length ≤ 16 := by
 unfold fewB at hf
 simp only [Bool.and_eq_true,decide_eq_true_eq] at hf
 refine ⟨hf.1.1.1.1.1,?_⟩
 omega
def cutR (r : GRule) : GRule := if r.choice then r else { r with head := r.head.take 1 }
def cutP (p : GProg) : GProg := { p with rules := p.rules.map cutR }
theorem cut_is {r : GRule} {n : Int} (h : RuleIs r n) : RuleIs (cutR r) n := by
 unfold cutR
 split
 ·exact h
 ·rename_i hc
  refine { h with head := ?_,choice := fun e => absurd e hc }
  have := inc_mem h.head
  exact inc_make (fun x hx => this x (List.mem_of_mem_take hx)) ((inc_pair h.head).sublist (List.take_sublist _ _))
theorem cut_nodj (r : GRule) : djB (cutR r) = false := by
 unfold cutR
 split
 ·rename_i hc; unfold djB; rw [hc]; rfl
 ·unfold djB
  have : (r.head.take 1).length ≤ 1 := List.length_take_le _ _
  show (!r.choice && decide (1 < (r.head.take 1).length)) = false
  rw [decide_eq_false (by omega),Bool.and_false]
theorem cutP_is {p : GProg} (h : ProgIs p) : ProgIs (cutP p) :=
 ⟨h.named,by show (p.rules.map cutR).length ≤ 40000; rw [List.length_map]; exact h.few,fun r hr => by obtain ⟨x,hx,rfl⟩ := List.mem_map.1 hr; exact cut_is (h.rules x hx),h.mins,h.min⟩
theorem cutP_nodj (p : GProg) : ∀ r ∈ (cutP p).rules,djB r = false := fun r hr => by
 obtain ⟨x,_,rfl⟩ := List.mem_map.1 hr; exact cut_nodj x
theorem lf_nodj {f : GRule → Bool} : ∀ {rs : List GRule} {n : Int},(∀ r ∈ rs,djB r = false) → lfF f rs n = []
 | [],_,_ => rfl
 | r :: t,n,h => by
  have h1 := h r (by simp)
  have ih := lf_nodj (f := f) (rs := t) (n := n + (sfN r : Int)) fun x hx => h x (by simp [hx])
  unfold lfF
  rw [ih,h1]; rfl
theorem lift_nodj {p : GProg} (h : ∀ r ∈ p.rules,djB r = false) (m : List Int) : liftL p m = m := by unfold liftL; rw [lf_nodj h,List.append_nil]
theorem SlIs.cut4 {α : Type} {R : Rep α} {w : World} {A : Option Addr} {l c : Nat} {xs : List α} (h : SlIs R w A l c xs) {m : Nat} (hm : m ≤ l) : SlIs R w A m c (xs.take m) := by
 refine ⟨by rw [List.length_take]; have := h.1; omega,Nat.le_trans hm h.2.1,⟨h.2.2.1.1,Nat.le_trans hm h.2.2.1.2⟩,fun h0 => ?_⟩
 obtain ⟨ad,e,hl,hc⟩ := h.2.2.2 (by omega)
 refine ⟨ad,e,hl,fun i x hx => hc i x ?_⟩
 rw [List.getElem?_take] at hx
 split at hx
 ·exact hx
 ·exact absurd hx (by simp)
theorem rcells22 {W : World} {g : Nat} {v0 v1 v2 v3 v4 v5 : Value} (h : Blk W g 35 #[v0,v1,v2,v3,v4,v5]) : W.cell? ⟨g,0,none⟩ = some v0 ∧ W.cell? ⟨g,1,none⟩ = some v1 ∧ W.cell? ⟨g,2,none⟩ = some v2 ∧ W.cell? ⟨g,3,none⟩ = some v3 ∧ W.cell? ⟨g,4,none⟩ = some v4 ∧ W.cell? ⟨g,5,none⟩ = some v5 :=
 ⟨h.cell 0,h.cell 1,h.cell 2,h.cell 3,h.cell 4,h.cell 5⟩
structure CuS (w : World) (g B : Nat) (v0 v1 v2 v4 : Value) (xs : List GRule) (A : Option Addr) (l c : Nat) (W : World) : Prop where
 own : OwnB ruleR 35 w B W (.slice A l c) xs
 len : l = xs.length
 box : Blk W g 27 #[v0,v1,v2,.slice A l c,v4]
 ne : (Value.slice A l c).ownBlock ≠ some g
theorem CuS.bel {w : World} {g B : Nat} {v0 v1 v2 v4 : Value} {xs : List GRule} {A : Option Addr} {l c : Nat} {W W' : World} (h : CuS w g B v0 v1 v2 v4 xs A l c W) (hb : Below W.heap.size W W') : CuS w g B v0 v1 v2 v4 xs A l c W' := ⟨h.own.bel hb,h.len,h.box.bel hb,h.ne⟩
theorem cut_take {rs : List GRule} {i : Nat} {r : GRule} (h : rs[i]? = some r) : (rs.take (i + 1)).map cutR = (rs.take i).map cutR ++ [cutR r] := by
 rw [List.take_add_one,h,List.map_append]; rfl
set_option maxRecDepth 100000 in
set_option maxHeartbeats 8000000 in
theorem shiftSingle_any (p : GProg) (nA : Option Addr) (nl nc : Nat) (sA : Option Addr) (sl sc : Nat) (rA : Option Addr) (rl rc : Nat) (mA : Option Addr) (ml mc : Nat) (w : World) (hp : ProgIn w p nA nl nc sA sl sc rA rl rc mA ml mc) :
  Calls Tryz.prog 7 #[.agg #[.int .i64 p.n,.slice nA nl nc,.slice sA sl sc,.slice rA rl rc,.slice mA ml mc]] w fun e w' => e = .returned (.bool true) ∧ Below w.heap.size w w' := by
 have cF := fun W (hb : Below w.heap.size w W) => few_any p nA nl nc sA sl sc rA rl rc mA ml mc W (hp.ext hb)
 have cV := fun W (hb : Below w.heap.size w W) => valid_any p nA nl nc sA sl sc rA rl rc mA ml mc W (hp.ext hb)
 have cA := awake22_any
 have bW := bel_alloc w (.cells #[.int .i64 p.n,.slice nA nl nc,.slice sA sl sc,.slice rA rl rc,.slice mA ml mc] 27)
 have bP : Blk (w.alloc (.cells #[.int .i64 p.n,.slice nA nl nc,.slice sA sl sc,.slice rA rl rc,.slice mA ml mc] 27)) w.heap.size 27 #[.int .i64 p.n,.slice nA nl nc,.slice sA sl sc,.slice rA rl rc,.slice mA ml mc] := blk_new rfl _ _
 cases hf : fewB p with
 | false =>
  rw [hf] at cF
  have HP := Lib.hid hp; clear hp
  have CF := Lib.hid cF; clear cF
  have CV := Lib.hid cV; clear cV
  have CA := Lib.hid cA; clear cA
  have BW := Lib.hid bW; clear bW
  have BP := Lib.hid bP; clear bP
  have HF := Lib.hid hf; clear hf
  go_enter Tryz.func7,Tryz.ntmps7
  go_wp2_with fail
  go_fit (CF.out _ BW.out); rintro e w1 ⟨rfl,hb⟩
  have HBL := Lib.hid (bel_trans BW.out hb)
  clear hb
  go_wp2_with fail
  go_fit (CA.out _); rintro e wz ⟨rfl,hbz⟩
  have HBZ := Lib.hid (bel_trans HBL.out hbz)
  clear hbz
  go_wp2_with fail
  go_ret
  exact ⟨rfl,HBZ.out⟩
 | true =>
  rw [hf] at cF
  by_cases hv : validE p = 0
  ·rw [hv] at cV
   have hpi := validE_is hv
   have hn := namedB_n hpi.named
   have hfs := few_small2 hf
   have hci := cutP_is hpi
   have hcv := ex_validE hci
   have hcfr := nodj_free (cutP_nodj p)
   have hso : SfOk (cutP p) := sf_small hci hfs.1 (by show (p.rules.map cutR).length ≤ 20; rw [List.length_map]; omega)
   have hsp := sfP_nodj hci (cutP_nodj p)
   have hlf := lift_nodj (cutP_nodj p) p.shown
   have hsi : incB (cutP p).n p.shown = true := by
    have h := hpi.named
    unfold namedB at h
    simp only [Bool.and_eq_true] at h
    exact h.1.2
   have hrl := hp.rules.len
   have hrc := hp.rules.cap
   have hrm := hp.rules.max
   have hr16 := hfs.2
   have HP := Lib.hid hp; clear hp
   have CF := Lib.hid cF; clear cF
   have CV := Lib.hid cV; clear cV
   have CA := Lib.hid cA; clear cA
   have BW := Lib.hid bW; clear bW
   have BP := Lib.hid bP; clear bP
   have HF := Lib.hid hf; clear hf
   have HV := Lib.hid hv; clear hv
   have HPI := Lib.hid hpi; clear hpi
   have HN := Lib.hid hn; clear hn
   have HFS := Lib.hid hfs; clear hfs
   have HCI := Lib.hid hci; clear hci
   have HCV := Lib.hid hcv; clear hcv
   have HCFR := Lib.hid hcfr; clear hcfr
   have HSO := Lib.hid hso; clear hso
   have HSP := Lib.hid hsp; clear hsp
   have HLF := Lib.hid hlf; clear hlf
   have HSI := Lib.hid hsi; clear hsi
   have HRL := Lib.hid hrl; clear hrl
   go_enter Tryz.func7,Tryz.ntmps7
   go_wp2_with fail
   go_fit (CF.out _ BW.out); rintro e w1 ⟨rfl,hb⟩
   have HBP := BP
   have HBL := BW
   have hbp := HBP.out.bel hb
   have HBL' := Lib.hid (bel_trans HBL.out hb)
   clear hb HBP HBL
   have HBL := HBL'
   clear HBL'
   obtain ⟨p0,p1,p2,p3,p4,p5⟩ := pcells hbp
   have HBP := Lib.hid hbp; clear hbp
   go_wp2_with fail
   clear p0 p1 p2 p3 p4 p5
   go_fit (CV.out _ HBL.out); rintro e w2 ⟨rfl,hb⟩
   have hbp := HBP.out.bel hb
   have hbl := bel_trans HBL.out hb
   clear hb HBP HBL
   obtain ⟨p0,p1,p2,p3,p4,p5⟩ := pcells hbp
   have hS : CuS w w2.heap.size (w2.heap.size + 1) (.int .i64 p.n) (.slice nA nl nc) (.slice sA sl sc) (.slice mA ml mc) ((p.rules.take 0).map cutR) none 0 0 (w2.alloc (.cells #[.int .i64 p.n,.slice nA nl nc,.slice sA sl sc,.slice none 0 0,.slice mA ml mc] 27)) :=
    ⟨OwnB.nil (bel_trans hbl (bel_alloc _ _)) (by have := hbl.size; omega) (by simp),rfl,blk_new rfl _ _,by simp [Value.ownBlock]⟩
   have hbp3 := hbp.bel (bel_alloc w2 (.cells #[.int .i64 p.n,.slice nA nl nc,.slice sA sl sc,.slice none 0 0,.slice mA ml mc] 27))
   have z3 : (w2.alloc (.cells #[.int .i64 p.n,.slice nA nl nc,.slice sA sl sc,.slice rA rl rc,.slice mA ml mc] 27)).frozen? ⟨w2.heap.size,3,none⟩ = false := (Blk.new w2 27 #[.int .i64 p.n,.slice nA nl nc,.slice sA sl sc,.slice rA rl rc,.slice mA ml mc]).frozen 3
   have c3 : (w2.alloc (.cells #[.int .i64 p.n,.slice nA nl nc,.slice sA sl sc,.slice rA rl rc,.slice mA ml mc] 27)).cell? ⟨w2.heap.size,3,none⟩ = some (.slice rA rl rc) := (Blk.new w2 27 #[.int .i64 p.n,.slice nA nl nc,.slice sA sl sc,.slice rA rl rc,.slice mA ml mc]).cell 3
   have r3 : (w2.alloc (.cells #[.int .i64 p.n,.slice nA nl nc,.slice sA sl sc,.slice none 0 0,.slice mA ml mc] 27)).cell? ⟨w.heap.size,3,none⟩ = some (.slice rA rl rc) := hbp3.cell 3
   have hwz : w.heap.size ≤ w2.heap.size := hbl.size
   have HBP := Lib.hid hbp; clear hbp
   have HBL := Lib.hid hbl; clear hbl
   have HS := Lib.hid hS; clear hS
   have HBP3 := Lib.hid hbp3; clear hbp3
   go_wp2_with fail
   clear p0 p1 p2 p3 p4 p5 z3 c3 r3
   generalize w2.alloc (.cells #[.int .i64 p.n,.slice nA nl nc,.slice sA sl sc,.slice none 0 0,.slice mA ml mc] 27) = W3 at *
   go_loopw [24] (fun t wr => ∃ (i : Nat) (A : Option Addr) (l c : Nat),i ≤ rl ∧ t = .int .i64 (i : Int) ∧ CuS w w2.heap.size (w2.heap.size + 1) (.int .i64 p.n) (.slice nA nl nc) (.slice sA sl sc) (.slice mA ml mc) ((p.rules.take i).map cutR) A l c wr) (fun t _ => rl - (intOf t).toNat)
   case atStart => exact ⟨0,none,0,0,Nat.zero_le _,rfl,HS.out⟩
   case round =>
    obtain ⟨i,A,l,c,hi,rfl,hs⟩ := hrel
    obtain ⟨wo,rfl⟩ : ∃ wo : World,wo = wr := ⟨_,rfl⟩
    by_cases hlt : i < rl
    ·obtain ⟨r,hri,-⟩ := HP.out.rules.drop hlt
     obtain ⟨bb,off,hA,hl,hc,bA,bl,bc,wA,wl,wc,rfl,hbl2,x0,x1,x2,x3,x4,x5,g1,g2,g3,g4⟩ := HP.out.rules.rule hri
     have hbw := hs.own.below
     have d0 := (hbw.cell (World.block_lt_of_cell? _ _ x0)).trans x0
     have d1 := (hbw.cell (World.block_lt_of_cell? _ _ x1)).trans x1
     have d2 := (hbw.cell (World.block_lt_of_cell? _ _ x2)).trans x2
     have d3 := (hbw.cell (World.block_lt_of_cell? _ _ x3)).trans x3
     have d4 := (hbw.cell (World.block_lt_of_cell? _ _ x4)).trans x4
     have d5 := (hbw.cell (World.block_lt_of_cell? _ _ x5)).trans x5
     clear x0 x1 x2 x3 x4 x5
     have k0 : (0 : Int) ≤ (i : Int) := by omega
     have k1 : (i : Int) < (rl : Int) := by omega
     have hcapH := g1.cap
     have hmaxH := g1.max
     obtain ⟨m1,hm1⟩ : ∃ m1,m1 = min hl 1 := ⟨_,rfl⟩
     have hct : SlIs intR w hA m1 hc (r.head.take 1) := by
      have h := g1.cut4 (m := m1) (by omega)
      have e : r.head.take m1 = r.head.take 1 := by
       have := g1.len
       rw [hm1]
       by_cases h1 : 1 ≤ hl
       ·rw [Nat.min_eq_right h1]
       ·have : r.head = [] := List.eq_nil_of_length_eq_zero (by omega)
        rw [this]; simp
      rwa [e] at h
     have hst := cut_take hri
     obtain ⟨ch,hch⟩ : ∃ ch,r.choice = ch := ⟨_,rfl⟩
     rw [hch] at d0
     have hlen0 := hs.len
     have hli : l = i := by rw [hlen0,List.length_map,List.length_take]; have := HRL.out; omega
     have hgl := hs.box.lt
     cases ch with
     | true =>
      clear hm1
      have hcr : cutR r = r := by unfold cutR; rw [if_pos hch]
      have hel : ruleR.is w [.bool true,.slice hA hl hc,.bool r.sum,.int .i64 r.bound,.slice bA bl bc,.slice wA wl wc] (cutR r) := by rw [hcr]; exact ⟨_,_,_,by rw [hch],ints_of g1,g2,ints_of g3,ints_of g4⟩
      have hlx : ((p.rules.take i).map cutR).length = i := by rw [← hlen0,hli]
      have hi16 : rl ≤ 16 := by have := HRL.out; omega
      obtain ⟨v',w6,hrun,own6,hg6,hat6⟩ := (hs.bel (bel_alloc wo (.cells #[.bool true,.slice hA hl hc,.bool r.sum,.int .i64 r.bound,.slice bA bl bc,.slice wA wl wc] 35))).own.app1 ety_rule (#[.bool true,.slice hA hl hc,.bool r.sum,.int .i64 r.bound,.slice bA bl bc,.slice wA wl wc] : Array Value).toList (cutR r) hel (by omega) 24
      obtain ⟨l',hl'⟩ : ∃ l',l' = ((p.rules.take i).map cutR ++ [cutR r]).length := ⟨_,rfl⟩
      have hlb : ((p.rules.take i).map cutR ++ [cutR r]).length ≤ 1000 := by rw [List.length_append,hlx]; simp; omega
      obtain ⟨A',c',rfl,-⟩ := own6.sl (by omega)
      rw [← hl'] at hrun own6 hat6
      have hs5 := hs.bel (bel_alloc wo (.cells #[.bool true,.slice hA hl hc,.bool r.sum,.int .i64 r.bound,.slice bA bl bc,.slice wA wl wc] 35))
      have b6 := (grown_kept hg6).blk hs5.box (fun e => hs5.ne (by simpa using e))
      have k4 : (wo.alloc (.cells #[.bool true,.slice hA hl hc,.bool r.sum,.int .i64 r.bound,.slice bA bl bc,.slice wA wl wc] 35)).cell? ⟨w2.heap.size,3,none⟩ = some (.slice A l c) := hs5.box.cell 3
      have k6 : w6.cell? ⟨w2.heap.size,3,none⟩ = some (.slice A l c) := b6.cell 3
      have z6 : w6.frozen? ⟨w2.heap.size,3,none⟩ = false := b6.frozen 3
      have hbc : Blk (wo.alloc (.cells #[.bool true,.slice hA hl hc,.bool r.sum,.int .i64 r.bound,.slice bA bl bc,.slice wA wl wc] 35)) wo.heap.size 35 #[.bool true,.slice hA hl hc,.bool r.sum,.int .i64 r.bound,.slice bA bl bc,.slice wA wl wc] := blk_new rfl _ _
      obtain ⟨q0,q1,q2,q3,q4,q5⟩ := rcells22 hbc
      have hne6 : (Value.slice A' l' c').ownBlock ≠ some w2.heap.size := fun e => by
       rcases hat6 _ e with h | h
       ·exact hs5.ne h
       ·rw [World.size_alloc] at h; omega
      have kk : Kept [w2.heap.size] w6 (w6.setCell ⟨w2.heap.size,3,none⟩ (.slice A' l' c')) := (Kept.refl _ _).set (.inl (by simp)) _
      have sh7 : CuS w w2.heap.size (w2.heap.size + 1) (.int .i64 p.n) (.slice nA nl nc) (.slice sA sl sc) (.slice mA ml mc) ((p.rules.take (i + 1)).map cutR) A' l' c' (w6.setCell ⟨w2.heap.size,3,none⟩ (.slice A' l' c')) := by
       rw [hst]
       exact ⟨own6.kept kk (fun k hk => by simp at hk; subst hk; exact ⟨hwz,hne6⟩),hl',b6.set_ 3 _,hne6⟩
      rw [World.size_alloc] at hrun
      have HLX := Lib.hid hlx; clear hlx
      have HS := Lib.hid hs; clear hs
      have HRUN := Lib.hid hrun; clear hrun
      have OWN6 := Lib.hid own6; clear own6
      have HG6 := Lib.hid hg6; clear hg6
      have HAT6 := Lib.hid hat6; clear hat6
      have HS5 := Lib.hid hs5; clear hs5
      have B6 := Lib.hid b6; clear b6
      have HBC := Lib.hid hbc; clear hbc
      have HNE6 := Lib.hid hne6; clear hne6
      have KK := Lib.hid kk; clear kk
      have SH7 := Lib.hid sh7; clear sh7
      have HL' := Lib.hid hl'; clear hl'
      have HLB := Lib.hid hlb; clear hlb
      have HEL := Lib.hid hel; clear hel
      have HCR := Lib.hid hcr; clear hcr
      have HST := Lib.hid hst; clear hst
      have HCT := Lib.hid hct; clear hct
      have HCH := Lib.hid hch; clear hch
      have HLEN0 := Lib.hid hlen0; clear hlen0
      have HLI := Lib.hid hli; clear hli
      have G1 := Lib.hid g1; clear g1
      have G2 := Lib.hid g2; clear g2
      have G3 := Lib.hid g3; clear g3
      have G4 := Lib.hid g4; clear g4
      have HRI := Lib.hid hri; clear hri
      have HBW := Lib.hid hbw; clear hbw
      go_wp2_with (at_builtin; refine wpList_append_run rfl _ _ _ rfl _ _ rfl rfl _ _ HRUN.out ?_)
      go_roundw
      case rel => exact ⟨i + 1,A',l',c',by omega,by go_num,SH7.out⟩
      case measure => simp [intOf]; omega
     | false =>
      have hcr : cutR r = { r with head := r.head.take 1 } := by unfold cutR; rw [if_neg (by simp [hch])]
      obtain h0 | h0 : hl = 0 ∨ 1 ≤ hl := by omega
      ·subst h0
       have hm0 : m1 = 0 := by rw [hm1]; rfl
       subst hm0
       clear hm1
       have hmn : min (0 : Int) 1 = 0 := by decide
       cases hA with
       | none =>
        have hel : ruleR.is w [.bool false,.slice none 0 hc,.bool r.sum,.int .i64 r.bound,.slice bA bl bc,.slice wA wl wc] (cutR r) := by rw [hcr]; exact ⟨_,_,_,by rw [← hch],ints_of hct,g2,ints_of g3,ints_of g4⟩
        have a1 : (wo.alloc (.cells #[.bool false,.slice none 0 hc,.bool r.sum,.int .i64 r.bound,.slice bA bl bc,.slice wA wl wc] 35)).cell? ⟨wo.heap.size,1,none⟩ = some (.slice none 0 hc) := (Blk.new wo 35 #[.bool false,.slice none 0 hc,.bool r.sum,.int .i64 r.bound,.slice bA bl bc,.slice wA wl wc]).cell 1
        have a0 : (wo.alloc (.cells #[.bool false,.slice none 0 hc,.bool r.sum,.int .i64 r.bound,.slice bA bl bc,.slice wA wl wc] 35)).frozen? ⟨wo.heap.size,1,none⟩ = false := (Blk.new wo 35 #[.bool false,.slice none 0 hc,.bool r.sum,.int .i64 r.bound,.slice bA bl bc,.slice wA wl wc]).frozen 1
        have hlx : ((p.rules.take i).map cutR).length = i := by rw [← hlen0,hli]
        have hi16 : rl ≤ 16 := by have := HRL.out; omega
        obtain ⟨v',w6,hrun,own6,hg6,hat6⟩ := (hs.bel (bel_alloc wo (.cells #[.bool false,.slice none 0 hc,.bool r.sum,.int .i64 r.bound,.slice bA bl bc,.slice wA wl wc] 35))).own.app1 ety_rule (#[.bool false,.slice none 0 hc,.bool r.sum,.int .i64 r.bound,.slice bA bl bc,.slice wA wl wc] : Array Value).toList (cutR r) hel (by omega) 24
        obtain ⟨l',hl'⟩ : ∃ l',l' = ((p.rules.take i).map cutR ++ [cutR r]).length := ⟨_,rfl⟩
        have hlb : ((p.rules.take i).map cutR ++ [cutR r]).length ≤ 1000 := by rw [List.length_append,hlx]; simp; omega
        obtain ⟨A',c',rfl,-⟩ := own6.sl (by omega)
        rw [← hl'] at hrun own6 hat6
        have hs5 := hs.bel (bel_alloc wo (.cells #[.bool false,.slice none 0 hc,.bool r.sum,.int .i64 r.bound,.slice bA bl bc,.slice wA wl wc] 35))
        have b6 := (grown_kept hg6).blk hs5.box (fun e => hs5.ne (by simpa using e))
        have k4 : (wo.alloc (.cells #[.bool false,.slice none 0 hc,.bool r.sum,.int .i64 r.bound,.slice bA bl bc,.slice wA wl wc] 35)).cell? ⟨w2.heap.size,3,none⟩ = some (.slice A l c) := hs5.box.cell 3
        have k6 : w6.cell? ⟨w2.heap.size,3,none⟩ = some (.slice A l c) := b6.cell 3
        have z6 : w6.frozen? ⟨w2.heap.size,3,none⟩ = false := b6.frozen 3
        have hbc : Blk (wo.alloc (.cells #[.bool false,.slice none 0 hc,.bool r.sum,.int .i64 r.bound,.slice bA bl bc,.slice wA wl wc] 35)) wo.heap.size 35 #[.bool false,.slice none 0 hc,.bool r.sum,.int .i64 r.bound,.slice bA bl bc,.slice wA wl wc] := blk_new rfl _ _
        obtain ⟨q0,q1,q2,q3,q4,q5⟩ := rcells22 hbc
        have hne6 : (Value.slice A' l' c').ownBlock ≠ some w2.heap.size := fun e => by
         rcases hat6 _ e with h | h
         ·exact hs5.ne h
         ·rw [World.size_alloc] at h; omega
        have kk : Kept [w2.heap.size] w6 (w6.setCell ⟨w2.heap.size,3,none⟩ (.slice A' l' c')) := (Kept.refl _ _).set (.inl (by simp)) _
        have sh7 : CuS w w2.heap.size (w2.heap.size + 1) (.int .i64 p.n) (.slice nA nl nc) (.slice sA sl sc) (.slice mA ml mc) ((p.rules.take (i + 1)).map cutR) A' l' c' (w6.setCell ⟨w2.heap.size,3,none⟩ (.slice A' l' c')) := by
         rw [hst]
         exact ⟨own6.kept kk (fun k hk => by simp at hk; subst hk; exact ⟨hwz,hne6⟩),hl',b6.set_ 3 _,hne6⟩
        rw [World.size_alloc] at hrun
        have HLX := Lib.hid hlx; clear hlx
        have HS := Lib.hid hs; clear hs
        have HRUN := Lib.hid hrun; clear hrun
        have OWN6 := Lib.hid own6; clear own6
        have HG6 := Lib.hid hg6; clear hg6
        have HAT6 := Lib.hid hat6; clear hat6
        have HS5 := Lib.hid hs5; clear hs5
        have B6 := Lib.hid b6; clear b6
        have HBC := Lib.hid hbc; clear hbc
        have HNE6 := Lib.hid hne6; clear hne6
        have KK := Lib.hid kk; clear kk
        have SH7 := Lib.hid sh7; clear sh7
        have HL' := Lib.hid hl'; clear hl'
        have HLB := Lib.hid hlb; clear hlb
        have HEL := Lib.hid hel; clear hel
        have HCR := Lib.hid hcr; clear hcr
        have HST := Lib.hid hst; clear hst
        have HCT := Lib.hid hct; clear hct
        have HCH := Lib.hid hch; clear hch
        have HLEN0 := Lib.hid hlen0; clear hlen0
        have HLI := Lib.hid hli; clear hli
        have G1 := Lib.hid g1; clear g1
        have G2 := Lib.hid g2; clear g2
        have G3 := Lib.hid g3; clear g3
        have G4 := Lib.hid g4; clear g4
        have HRI := Lib.hid hri; clear hri
        have HBW := Lib.hid hbw; clear hbw
        go_wp2_with (at_builtin; refine wpList_append_run rfl _ _ _ rfl _ _ rfl rfl _ _ HRUN.out ?_)
        go_roundw
        case rel => exact ⟨i + 1,A',l',c',by omega,by go_num,SH7.out⟩
        case measure => simp [intOf]; omega
       | some ad =>
        have hel : ruleR.is w [.bool false,.slice (some ad) 0 hc,.bool r.sum,.int .i64 r.bound,.slice bA bl bc,.slice wA wl wc] (cutR r) := by rw [hcr]; exact ⟨_,_,_,by rw [← hch],ints_of hct,g2,ints_of g3,ints_of g4⟩
        have a1 : (wo.alloc (.cells #[.bool false,.slice (some ad) 0 hc,.bool r.sum,.int .i64 r.bound,.slice bA bl bc,.slice wA wl wc] 35)).cell? ⟨wo.heap.size,1,none⟩ = some (.slice (some ad) 0 hc) := (Blk.new wo 35 #[.bool false,.slice (some ad) 0 hc,.bool r.sum,.int .i64 r.bound,.slice bA bl bc,.slice wA wl wc]).cell 1
        have a0 : (wo.alloc (.cells #[.bool false,.slice (some ad) 0 hc,.bool r.sum,.int .i64 r.bound,.slice bA bl bc,.slice wA wl wc] 35)).frozen? ⟨wo.heap.size,1,none⟩ = false := (Blk.new wo 35 #[.bool false,.slice (some ad) 0 hc,.bool r.sum,.int .i64 r.bound,.slice bA bl bc,.slice wA wl wc]).frozen 1
        have hlx : ((p.rules.take i).map cutR).length = i := by rw [← hlen0,hli]
        have hi16 : rl ≤ 16 := by have := HRL.out; omega
        obtain ⟨v',w6,hrun,own6,hg6,hat6⟩ := (hs.bel (bel_alloc wo (.cells #[.bool false,.slice (some ad) 0 hc,.bool r.sum,.int .i64 r.bound,.slice bA bl bc,.slice wA wl wc] 35))).own.app1 ety_rule (#[.bool false,.slice (some ad) 0 hc,.bool r.sum,.int .i64 r.bound,.slice bA bl bc,.slice wA wl wc] : Array Value).toList (cutR r) hel (by omega) 24
        obtain ⟨l',hl'⟩ : ∃ l',l' = ((p.rules.take i).map cutR ++ [cutR r]).length := ⟨_,rfl⟩
        have hlb : ((p.rules.take i).map cutR ++ [cutR r]).length ≤ 1000 := by rw [List.length_append,hlx]; simp; omega
        obtain ⟨A',c',rfl,-⟩ := own6.sl (by omega)
        rw [← hl'] at hrun own6 hat6
        have hs5 := hs.bel (bel_alloc wo (.cells #[.bool false,.slice (some ad) 0 hc,.bool r.sum,.int .i64 r.bound,.slice bA bl bc,.slice wA wl wc] 35))
        have b6 := (grown_kept hg6).blk hs5.box (fun e => hs5.ne (by simpa using e))
        have k4 : (wo.alloc (.cells #[.bool false,.slice (some ad) 0 hc,.bool r.sum,.int .i64 r.bound,.slice bA bl bc,.slice wA wl wc] 35)).cell? ⟨w2.heap.size,3,none⟩ = some (.slice A l c) := hs5.box.cell 3
        have k6 : w6.cell? ⟨w2.heap.size,3,none⟩ = some (.slice A l c) := b6.cell 3
        have z6 : w6.frozen? ⟨w2.heap.size,3,none⟩ = false := b6.frozen 3
        have hbc : Blk (wo.alloc (.cells #[.bool false,.slice (some ad) 0 hc,.bool r.sum,.int .i64 r.bound,.slice bA bl bc,.slice wA wl wc] 35)) wo.heap.size 35 #[.bool false,.slice (some ad) 0 hc,.bool r.sum,.int .i64 r.bound,.slice bA bl bc,.slice wA wl wc] := blk_new rfl _ _
        obtain ⟨q0,q1,q2,q3,q4,q5⟩ := rcells22 hbc
        have hne6 : (Value.slice A' l' c').ownBlock ≠ some w2.heap.size := fun e => by
         rcases hat6 _ e with h | h
         ·exact hs5.ne h
         ·rw [World.size_alloc] at h; omega
        have kk : Kept [w2.heap.size] w6 (w6.setCell ⟨w2.heap.size,3,none⟩ (.slice A' l' c')) := (Kept.refl _ _).set (.inl (by simp)) _
        have sh7 : CuS w w2.heap.size (w2.heap.size + 1) (.int .i64 p.n) (.slice nA nl nc) (.slice sA sl sc) (.slice mA ml mc) ((p.rules.take (i + 1)).map cutR) A' l' c' (w6.setCell ⟨w2.heap.size,3,none⟩ (.slice A' l' c')) := by
         rw [hst]
         exact ⟨own6.kept kk (fun k hk => by simp at hk; subst hk; exact ⟨hwz,hne6⟩),hl',b6.set_ 3 _,hne6⟩
        rw [World.size_alloc] at hrun
        have HLX := Lib.hid hlx; clear hlx
        have HS := Lib.hid hs; clear hs
        have HRUN := Lib.hid hrun; clear hrun
        have OWN6 := Lib.hid own6; clear own6
        have HG6 := Lib.hid hg6; clear hg6
        have HAT6 := Lib.hid hat6; clear hat6
        have HS5 := Lib.hid hs5; clear hs5
        have B6 := Lib.hid b6; clear b6
        have HBC := Lib.hid hbc; clear hbc
        have HNE6 := Lib.hid hne6; clear hne6
        have KK := Lib.hid kk; clear kk
        have SH7 := Lib.hid sh7; clear sh7
        have HL' := Lib.hid hl'; clear hl'
        have HLB := Lib.hid hlb; clear hlb
        have HEL := Lib.hid hel; clear hel
        have HCR := Lib.hid hcr; clear hcr
        have HST := Lib.hid hst; clear hst
        have HCT := Lib.hid hct; clear hct
        have HCH := Lib.hid hch; clear hch
        have HLEN0 := Lib.hid hlen0; clear hlen0
        have HLI := Lib.hid hli; clear hli
        have G1 := Lib.hid g1; clear g1
        have G2 := Lib.hid g2; clear g2
        have G3 := Lib.hid g3; clear g3
        have G4 := Lib.hid g4; clear g4
        have HRI := Lib.hid hri; clear hri
        have HBW := Lib.hid hbw; clear hbw
        go_wp2_with (at_builtin; refine wpList_append_run rfl _ _ _ rfl _ _ rfl rfl _ _ HRUN.out ?_)
        go_roundw
        case rel => exact ⟨i + 1,A',l',c',by omega,by go_num,SH7.out⟩
        case measure => simp [intOf]; omega
      ·have hm0 : m1 = 1 := by rw [hm1]; exact Nat.min_eq_right h0
       subst hm0
       clear hm1
       have hel : ruleR.is w [.bool false,.slice hA 1 hc,.bool r.sum,.int .i64 r.bound,.slice bA bl bc,.slice wA wl wc] (cutR r) := by rw [hcr]; exact ⟨_,_,_,by rw [← hch],ints_of hct,g2,ints_of g3,ints_of g4⟩
       have a1 : (wo.alloc (.cells #[.bool false,.slice hA hl hc,.bool r.sum,.int .i64 r.bound,.slice bA bl bc,.slice wA wl wc] 35)).cell? ⟨wo.heap.size,1,none⟩ = some (.slice hA hl hc) := (Blk.new wo 35 #[.bool false,.slice hA hl hc,.bool r.sum,.int .i64 r.bound,.slice bA bl bc,.slice wA wl wc]).cell 1
       have a0 : (wo.alloc (.cells #[.bool false,.slice hA hl hc,.bool r.sum,.int .i64 r.bound,.slice bA bl bc,.slice wA wl wc] 35)).frozen? ⟨wo.heap.size,1,none⟩ = false := (Blk.new wo 35 #[.bool false,.slice hA hl hc,.bool r.sum,.int .i64 r.bound,.slice bA bl bc,.slice wA wl wc]).frozen 1
       have a2 : (wo.alloc (.cells #[.bool false,.slice hA hl hc,.bool r.sum,.int .i64 r.bound,.slice bA bl bc,.slice wA wl wc] 35)).cell? ⟨wo.heap.size,0,none⟩ = some (.bool false) := (Blk.new wo 35 #[.bool false,.slice hA hl hc,.bool r.sum,.int .i64 r.bound,.slice bA bl bc,.slice wA wl wc]).cell 0
       have hmn : min (hl : Int) 1 = 1 := by omega
       have hlx : ((p.rules.take i).map cutR).length = i := by rw [← hlen0,hli]
       have hi16 : rl ≤ 16 := by have := HRL.out; omega
       obtain ⟨v',w6,hrun,own6,hg6,hat6⟩ := (hs.bel (bel_alloc wo (.cells #[.bool false,.slice hA 1 hc,.bool r.sum,.int .i64 r.bound,.slice bA bl bc,.slice wA wl wc] 35))).own.app1 ety_rule (#[.bool false,.slice hA 1 hc,.bool r.sum,.int .i64 r.bound,.slice bA bl bc,.slice wA wl wc] : Array Value).toList (cutR r) hel (by omega) 24
       obtain ⟨l',hl'⟩ : ∃ l',l' = ((p.rules.take i).map cutR ++ [cutR r]).length := ⟨_,rfl⟩
       have hlb : ((p.rules.take i).map cutR ++ [cutR r]).length ≤ 1000 := by rw [List.length_append,hlx]; simp; omega
       obtain ⟨A',c',rfl,-⟩ := own6.sl (by omega)
       rw [← hl'] at hrun own6 hat6
       have hs5 := hs.bel (bel_alloc wo (.cells #[.bool false,.slice hA 1 hc,.bool r.sum,.int .i64 r.bound,.slice bA bl bc,.slice wA wl wc] 35))
       have b6 := (grown_kept hg6).blk hs5.box (fun e => hs5.ne (by simpa using e))
       have k4 : (wo.alloc (.cells #[.bool false,.slice hA 1 hc,.bool r.sum,.int .i64 r.bound,.slice bA bl bc,.slice wA wl wc] 35)).cell? ⟨w2.heap.size,3,none⟩ = some (.slice A l c) := hs5.box.cell 3
       have k6 : w6.cell? ⟨w2.heap.size,3,none⟩ = some (.slice A l c) := b6.cell 3
       have z6 : w6.frozen? ⟨w2.heap.size,3,none⟩ = false := b6.frozen 3
       have hbc : Blk (wo.alloc (.cells #[.bool false,.slice hA 1 hc,.bool r.sum,.int .i64 r.bound,.slice bA bl bc,.slice wA wl wc] 35)) wo.heap.size 35 #[.bool false,.slice hA 1 hc,.bool r.sum,.int .i64 r.bound,.slice bA bl bc,.slice wA wl wc] := blk_new rfl _ _
       obtain ⟨q0,q1,q2,q3,q4,q5⟩ := rcells22 hbc
       have hne6 : (Value.slice A' l' c').ownBlock ≠ some w2.heap.size := fun e => by
        rcases hat6 _ e with h | h
        ·exact hs5.ne h
        ·rw [World.size_alloc] at h; omega
       have kk : Kept [w2.heap.size] w6 (w6.setCell ⟨w2.heap.size,3,none⟩ (.slice A' l' c')) := (Kept.refl _ _).set (.inl (by simp)) _
       have sh7 : CuS w w2.heap.size (w2.heap.size + 1) (.int .i64 p.n) (.slice nA nl nc) (.slice sA sl sc) (.slice mA ml mc) ((p.rules.take (i + 1)).map cutR) A' l' c' (w6.setCell ⟨w2.heap.size,3,none⟩ (.slice A' l' c')) := by
        rw [hst]
        exact ⟨own6.kept kk (fun k hk => by simp at hk; subst hk; exact ⟨hwz,hne6⟩),hl',b6.set_ 3 _,hne6⟩
       rw [World.size_alloc] at hrun
       have HLX := Lib.hid hlx; clear hlx
       have HS := Lib.hid hs; clear hs
       have HRUN := Lib.hid hrun; clear hrun
       have OWN6 := Lib.hid own6; clear own6
       have HG6 := Lib.hid hg6; clear hg6
       have HAT6 := Lib.hid hat6; clear hat6
       have HS5 := Lib.hid hs5; clear hs5
       have B6 := Lib.hid b6; clear b6
       have HBC := Lib.hid hbc; clear hbc
       have HNE6 := Lib.hid hne6; clear hne6
       have KK := Lib.hid kk; clear kk
       have SH7 := Lib.hid sh7; clear sh7
       have HL' := Lib.hid hl'; clear hl'
       have HLB := Lib.hid hlb; clear hlb
       have HEL := Lib.hid hel; clear hel
       have HCR := Lib.hid hcr; clear hcr
       have HST := Lib.hid hst; clear hst
       have HCT := Lib.hid hct; clear hct
       have HCH := Lib.hid hch; clear hch
       have HLEN0 := Lib.hid hlen0; clear hlen0
       have HLI := Lib.hid hli; clear hli
       have G1 := Lib.hid g1; clear g1
       have G2 := Lib.hid g2; clear g2
       have G3 := Lib.hid g3; clear g3
       have G4 := Lib.hid g4; clear g4
       have HRI := Lib.hid hri; clear hri
       have HBW := Lib.hid hbw; clear hbw
       go_wp2_with (at_builtin; refine wpList_append_run rfl _ _ _ rfl _ _ rfl rfl _ _ HRUN.out ?_)
       go_roundw
       case rel => exact ⟨i + 1,A',l',c',by omega,by go_num,SH7.out⟩
       case measure => simp [intOf]; omega
    ·have hil : i = rl := by omega
     subst hil
     have htk : (p.rules.take i).map cutR = (cutP p).rules := by show _ = p.rules.map cutR; rw [List.take_of_length_le (by have := HRL.out; omega)]
     rw [htk] at hs
     have hln : (cutP p).rules.length = i := by show (p.rules.map cutR).length = i; rw [List.length_map]; exact HRL.out.symm
     obtain ⟨A2,c2,ev,hsl⟩ := hs.own.sl (by rw [hln]; have := HRL.out; omega)
     rw [← hs.len] at ev hsl
     injection ev with e1 _ e2
     subst e1 e2
     have hbw := hs.own.below
     have hbx := hs.box
     have hpw := HP.out.ext hbw
     have hq : ProgIn wo (cutP p) nA nl nc sA sl sc A l c mA ml mc := ⟨hpw.n,hpw.names,hpw.shown,hsl,hpw.min⟩
     have cS := shift_any (cutP p) nA nl nc sA sl sc A l c mA ml mc wo hq HCV.out HCFR.out HSO.out
     rw [HSP.out] at cS
     have cQ := fun W (hb : Below wo.heap.size wo W) => lift_any (cutP p) nA nl nc sA sl sc A l c mA ml mc sA sl sc p.shown W (hq.ext hb) (hq.shown.ext hb) HCV.out HCFR.out HSO.out HSI.out
     rw [HLF.out] at cQ
     obtain ⟨p0,p1,p2,p3,p4,p5⟩ := pcells hbx
     have HS := Lib.hid hs; clear hs
     have HSL := Lib.hid hsl; clear hsl
     have HBW := Lib.hid hbw; clear hbw
     have HBX := Lib.hid hbx; clear hbx
     have HPW := Lib.hid hpw; clear hpw
     have HQ := Lib.hid hq; clear hq
     have CS := Lib.hid cS; clear cS
     have CQ := Lib.hid cQ; clear cQ
     have HTK := Lib.hid htk; clear htk
     have HLN := Lib.hid hln; clear hln
     go_wp2_with fail
     clear p0 p1 p2 p3 p4 p5
     go_fit CS.out; rintro e w3 ⟨nE,lE,cE,sE,kE,dE,rE,mE,fE,tE,iE,jE,rfl,hP,hb'⟩
     have hb := bel_trans hb' (bel_alloc w3 (.cells #[.int .i64 (cutP p).n,.slice nE lE cE,.slice sE kE dE,.slice rE mE fE,.slice tE iE jE] 27))
     have hbx := HBX.out.bel hb
     have hbt : Blk (w3.alloc (.cells #[.int .i64 (cutP p).n,.slice nE lE cE,.slice sE kE dE,.slice rE mE fE,.slice tE iE jE] 27)) w3.heap.size 27 #[.int .i64 (cutP p).n,.slice nE lE cE,.slice sE kE dE,.slice rE mE fE,.slice tE iE jE] := blk_new rfl _ _
     have hP4 := hP.ext (bel_alloc w3 (.cells #[.int .i64 (cutP p).n,.slice nE lE cE,.slice sE kE dE,.slice rE mE fE,.slice tE iE jE] 27))
     have hq4 := HQ.out.ext hb
     have hw4 := bel_trans HBW.out hb
     have cL := CQ.out _ hb
     clear hb hb' hP CS CQ HBX
     obtain ⟨p0,p1,p2,p3,p4,p5⟩ := pcells hbx
     have HBX := Lib.hid hbx; clear hbx
     have HBT := Lib.hid hbt; clear hbt
     have HP4 := Lib.hid hP4; clear hP4
     have HQ4 := Lib.hid hq4; clear hq4
     have HW4 := Lib.hid hw4; clear hw4
     have CL := Lib.hid cL; clear cL
     go_wp2_with fail
     clear p0 p1 p2 p3 p4 p5
     generalize w3.alloc (.cells #[.int .i64 (cutP p).n,.slice nE lE cE,.slice sE kE dE,.slice rE mE fE,.slice tE iE jE] 27) = w4 at *
     generalize w3.heap.size = gq at *
     go_fit CL.out; rintro e w5 ⟨lA,ll,lc,rfl,hL,hb⟩
     have hbx := HBX.out.bel hb
     have hbt := HBT.out.bel hb
     have hP5 := HP4.out.ext hb
     have hq5 := HQ4.out.ext hb
     have hw5 := bel_trans HW4.out hb
     clear hb CL HBX HBT HP4 HQ4
     obtain ⟨p0,p1,p2,p3,p4,p5⟩ := pcells hbx
     obtain ⟨q0,q1,q2,q3,q4,q5⟩ := pcells hbt
     have cG := gsame_true (cutP p) nE lE cE sE kE dE rE mE fE tE iE jE nA nl nc sA sl sc A l c mA ml mc w5 hP5 hq5
     have HBX := Lib.hid hbx; clear hbx
     have HBT := Lib.hid hbt; clear hbt
     have HP5 := Lib.hid hP5; clear hP5
     have HQ5 := Lib.hid hq5; clear hq5
     have HW5 := Lib.hid hw5; clear hw5
     have HL := Lib.hid hL; clear hL
     have CG := Lib.hid cG; clear cG
     go_wp2_with fail
     clear p0 p1 p2 p3 p4 p5 q0 q1 q2 q3 q4 q5
     go_fit CG.out; rintro e w6 ⟨rfl,hb⟩
     have hbx := HBX.out.bel hb
     have hq6 := HQ5.out.ext hb
     have hL6 := HL.out.ext hb
     have hw6 := bel_trans HW5.out hb
     clear hb CG HBX HQ5 HL
     have cI := lawInts_any lA ll lc sA sl sc p.shown p.shown w6 hL6 hq6.shown
     rw [show decide (p.shown = p.shown) = true by simp] at cI
     obtain ⟨p0,p1,p2,p3,p4,p5⟩ := pcells hbx
     have HBX := Lib.hid hbx; clear hbx
     have HQ6 := Lib.hid hq6; clear hq6
     have HW6 := Lib.hid hw6; clear hw6
     have HL6 := Lib.hid hL6; clear hL6
     have CI := Lib.hid cI; clear cI
     go_wp2_with fail
     clear p0 p1 p2 p3 p4 p5
     go_fit CI.out; rintro e w7 ⟨rfl,hb⟩
     have HBL := Lib.hid (bel_trans HW6.out hb)
     clear hb
     go_wp2_with fail
     go_fit (CA.out _); rintro e wz ⟨rfl,hbz⟩
     have HBZ := Lib.hid (bel_trans HBL.out hbz)
     clear hbz
     go_wp2_with fail
     go_ret
     exact ⟨rfl,HBZ.out⟩
  ·obtain ⟨v,hve⟩ : ∃ v,v = validE p := ⟨_,rfl⟩
   rw [← hve] at cV hv
   have q1 : (v != 0) = true := by simpa using hv
   have HP := Lib.hid hp; clear hp
   have CF := Lib.hid cF; clear cF
   have CV := Lib.hid cV; clear cV
   have CA := Lib.hid cA; clear cA
   have BW := Lib.hid bW; clear bW
   have BP := Lib.hid bP; clear bP
   have HF := Lib.hid hf; clear hf
   have HV := Lib.hid hv; clear hv
   have HVE := Lib.hid hve; clear hve
   go_enter Tryz.func7,Tryz.ntmps7
   go_wp2_with fail
   go_fit (CF.out _ BW.out); rintro e w1 ⟨rfl,hb⟩
   have HBP := BP
   have HBL := BW
   have hbp := HBP.out.bel hb
   have HBL' := Lib.hid (bel_trans HBL.out hb)
   clear hb HBP HBL
   have HBL := HBL'
   clear HBL'
   obtain ⟨p0,p1,p2,p3,p4,p5⟩ := pcells hbp
   have HBP := Lib.hid hbp; clear hbp
   go_wp2_with fail
   clear p0 p1 p2 p3 p4 p5
   go_fit (CV.out _ HBL.out); rintro e w2 ⟨rfl,hb⟩
   have HBL' := Lib.hid (bel_trans HBL.out hb)
   clear hb HBL
   have HBL := HBL'
   clear HBL'
   go_wp2_with fail
   go_fit (CA.out _); rintro e wz ⟨rfl,hbz⟩
   have HBZ := Lib.hid (bel_trans HBL.out hbz)
   clear hbz
   go_wp2_with fail
   go_ret
   exact ⟨rfl,HBZ.out⟩
end Go.Proofs.YtceokdbcglbclaaGreat
